import Derived.Test.YtoaggmegmgdgbaaGreatROpen
import Derived.Test.YtoaggmegmgdgbaaGreatGapC
import Derived.Test.YtoaggmegmgdgbaaGreatLamO
namespace Go.Proofs.YtoaggmegmgdgbaaGreat
open Go.RowKit Go.Sort Go.Maps
theorem info_strG : (Tryz.prog.info? 9).map (fun i => (i.zero, i.size, i.bytes)) = some (some (.string ⟨#[]⟩), 1, 16) := by kernel_rfl
theorem NestP.pushR {α : Type} {B : Nat} {e oe : TypeId} {size : Nat} {enc : α → List Value} {vs : List Value} {out : List (List α)} {v v' u : Value} {w w' : World} {X : List It} {xs : List α}
    (h : NestP w B oe e size enc (X ++ [itRow B e size u xs.length (xs.flatMap enc)]) v vs out) (hg : w.grownBy w' v.ownBlock) (hrow : w'.ownsRow B oe 1 v' (vs.length + 1) (vs ++ [u])) (hloc : v'.ownBlock = v.ownBlock ∨ v'.ownBlock = some w.heap.size) : NestP w' B oe e size enc X v' (vs ++ [u]) (out ++ [xs]) := by
  obtain ⟨h1, h2⟩ := h
  have h3 := h2.upd (a' := itRow B oe 1 v' (vs ++ [u]).length (vs ++ [u])) hg (by rw [List.length_append]; exact hrow) (fun k hk => by
    have hk : v'.ownBlock = some k := hk
    show v.ownBlock = some k ∨ _
    rcases hloc with e1 | e1
    · exact .inl (by rw [← e1]; exact hk)
    · right; rw [e1] at hk; injection hk with hk; omega)
  refine ⟨by simp [h1], ?_⟩
  rw [inIts_snoc h1]
  refine h3.perm ?_
  rw [List.append_assoc]
  refine List.Perm.append_left X ?_
  refine (List.perm_append_comm (l₁ := [itRow B e size u xs.length (xs.flatMap enc)])).trans ?_
  rw [List.cons_append]
theorem own_blk {w : World} {g n B size : Nat} {T : TypeId} {cs : List Value} (h : Blk w g T cs.toArray) (hl : cs.length = n * size) (hb : B ≤ g) (hn : n ≤ maxLen) : w.ownsRow B T size (.slice (some ⟨g, 0, none⟩) n n) n cs :=
  ⟨hl, .inr ⟨g, n, cs.toArray, rfl, hb, h, Nat.le_refl _, hn, by simp [hl], by simp [← hl]⟩⟩
theorem gb_of_but {A B : World} {g : Nat} (h : But (fun k => k = g) A B) : A.grownBy B (some g) := ⟨h.os, h.tape, h.output, h.size, fun k hk hn => h.block k hk (fun e => hn (by rw [e]))⟩
theorem But.set1 (A : World) (g j : Nat) (v : Value) : But (fun k => k = g) A (A.setCell ⟨g, j, none⟩ v) := by
  have q : But (fun k => k = g) A A := But.refl _ A
  exact q.setCell (p := ⟨g, j, none⟩) (Or.inl (rfl : g = g)) v
theorem gb_bel {A B : World} (h : Below A.heap.size A B) : A.grownBy B none := ⟨h.os, h.tape, h.output, h.size, fun k hk _ => h.block k hk⟩
theorem keep_set6 {W : World} {a : Addr} {v u0 u1 u2 u3 u4 u5 : Value} {g : Nat} (h : W.cell? a = some v) (hne : a.block ≠ g) : ((((((W.setCell ⟨g, 0, none⟩ u0).setCell ⟨g, 1, none⟩ u1).setCell ⟨g, 2, none⟩ u2).setCell ⟨g, 3, none⟩ u3).setCell ⟨g, 4, none⟩ u4).setCell ⟨g, 5, none⟩ u5).cell? a = some v := by
  rw [World.cell?_setCell_other _ _ _ _ (fun e => hne (by rw [← e])), World.cell?_setCell_other _ _ _ _ (fun e => hne (by rw [← e])), World.cell?_setCell_other _ _ _ _ (fun e => hne (by rw [← e])), World.cell?_setCell_other _ _ _ _ (fun e => hne (by rw [← e])), World.cell?_setCell_other _ _ _ _ (fun e => hne (by rw [← e])), World.cell?_setCell_other _ _ _ _ (fun e => hne (by rw [← e]))]
  exact h
theorem Blk.set6 {W : World} {g : Nat} {T : TypeId} {c0 c1 c2 c3 c4 c5 : Value} (h : Blk W g T #[c0, c1, c2, c3, c4, c5]) (v0 v1 v2 v3 v4 v5 : Value) : Blk ((((((W.setCell ⟨g, 0, none⟩ v0).setCell ⟨g, 1, none⟩ v1).setCell ⟨g, 2, none⟩ v2).setCell ⟨g, 3, none⟩ v3).setCell ⟨g, 4, none⟩ v4).setCell ⟨g, 5, none⟩ v5) g T #[v0, v1, v2, v3, v4, v5] :=
  (((((h.set_ 0 v0).set_ 1 v1).set_ 2 v2).set_ 3 v3).set_ 4 v4).set_ 5 v5
theorem nest_arcA {α : Type} {B : Nat} {oe e T : TypeId} {size : Nat} {enc : α → List Value} {vs : List Value} {out : List (List α)} {v : Value} {w : World} {X : List It} (h : NestP w B oe e size enc X v vs out) (cs : Array Value) :
    NestP (w.alloc (.cells cs T)) B oe e size enc (X ++ [itBlk w.heap.size T cs]) v vs out :=
  h.addNew (World.grownBy_alloc w (.cells cs T) none) (Blk.new w T cs) (fun q hq => by
    have hq : some w.heap.size = some q := hq
    injection hq with hq
    exact Nat.le_of_eq hq)
theorem nest_arcB {α : Type} {B g : Nat} {oe e T : TypeId} {size : Nat} {enc : α → List Value} {vs : List Value} {out : List (List α)} {v : Value} {wc w3 : World} {X : List It} {c0 c1 c2 c3 c4 c5 : Value} (h : NestP wc B oe e size enc X v vs out) (hb : Below wc.heap.size wc w3) (bx : Blk w3 g T #[c0, c1, c2, c3, c4, c5]) (hg : wc.heap.size ≤ g) (v0 v1 v2 v3 v4 v5 : Value) :
    NestP ((((((w3.setCell ⟨g, 0, none⟩ v0).setCell ⟨g, 1, none⟩ v1).setCell ⟨g, 2, none⟩ v2).setCell ⟨g, 3, none⟩ v3).setCell ⟨g, 4, none⟩ v4).setCell ⟨g, 5, none⟩ v5) B oe e size enc (X ++ [itBlk g T #[v0, v1, v2, v3, v4, v5]]) v vs out := by
  have h1 := h.addNew (a := itBlk g T #[c0, c1, c2, c3, c4, c5]) (gb_bel hb) bx (fun q hq => by
    have hq : some g = some q := hq
    injection hq with hq
    omega)
  exact h1.side (A := X) (C := []) (a' := itBlk g T #[v0, v1, v2, v3, v4, v5]) (gb_of_but (But.set6 w3 g v0 v1 v2 v3 v4 v5)) (Blk.set6 bx v0 v1 v2 v3 v4 v5) (fun q hq => .inl hq)
theorem below_set6 {n g : Nat} {w w3 : World} (h : Below n w w3) (hg : n ≤ g) (v0 v1 v2 v3 v4 v5 : Value) : Below n w ((((((w3.setCell ⟨g, 0, none⟩ v0).setCell ⟨g, 1, none⟩ v1).setCell ⟨g, 2, none⟩ v2).setCell ⟨g, 3, none⟩ v3).setCell ⟨g, 4, none⟩ v4).setCell ⟨g, 5, none⟩ v5) :=
  (((((h.setCell (p := ⟨g, 0, none⟩) hg v0).setCell (p := ⟨g, 1, none⟩) hg v1).setCell (p := ⟨g, 2, none⟩) hg v2).setCell (p := ⟨g, 3, none⟩) hg v3).setCell (p := ⟨g, 4, none⟩) hg v4).setCell (p := ⟨g, 5, none⟩) hg v5
def sideN (L : List Lf) (f : PT) : List Nat := L.map fun l => if sideU l f then 1 else 0
theorem sideN_B (L : List Lf) (f : PT) : (sideN L f).map UInt8.ofNat = sideB L f := by
  unfold sideN sideB
  rw [List.map_map]
  refine List.map_congr_left fun l _ => ?_
  simp only [Function.comp]
  split <;> rfl
theorem sideN_lt (L : List Lf) (f : PT) : ∀ x, x ∈ sideN L f → x < 256 := fun x hx => by
  obtain ⟨l, -, rfl⟩ := List.mem_map.1 hx
  split <;> omega
def rowN (L : List Lf) (f : PT) (j : Nat) : List Nat := sideN (L.take j) f ++ List.replicate (L.length - j) 0
theorem rowN_zero (L : List Lf) (f : PT) : rowN L f 0 = List.replicate L.length 0 := by simp [rowN, sideN]
theorem rowN_full (L : List Lf) (f : PT) : rowN L f L.length = sideN L f := by simp [rowN]
theorem rowN_get {L : List Lf} {f : PT} {j : Nat} (h : j < L.length) : (rowN L f j)[j]? = some 0 := by
  have hl : (sideN (L.take j) f).length = j := by simp [sideN]; omega
  unfold rowN
  rw [List.getElem?_append_right (by omega), hl, Nat.sub_self, List.getElem?_replicate]
  rw [if_pos (by omega)]
theorem rowN_step {L : List Lf} {f : PT} {j : Nat} (h : j < L.length) : rowN L f (j + 1) = if sideU L[j]! f then (rowN L f j).set j 1 else rowN L f j := by
  have hl : (sideN (L.take j) f).length = j := by simp [sideN]; omega
  have hs : sideN (L.take (j + 1)) f = sideN (L.take j) f ++ [if sideU L[j]! f then 1 else 0] := by
    unfold sideN
    rw [List.take_add_one, List.getElem?_eq_getElem h, List.map_append, getElem!_pos L j h]
    rfl
  have hr : List.replicate (L.length - j) 0 = 0 :: List.replicate (L.length - (j + 1)) 0 := by
    rw [show L.length - j = (L.length - (j + 1)) + 1 by omega, List.replicate_succ]
  unfold rowN
  rw [hs, hr]
  split
  · rw [List.set_append, if_neg (by omega), hl, Nat.sub_self]
    simp
  · simp
def encS (s : List UInt8) : Value := .string ⟨s.toArray⟩
theorem encS_ne {s t : List UInt8} (h : s ≠ t) : (⟨s.toArray⟩ : ByteArray) ≠ ⟨t.toArray⟩ := fun e => h (by
  have := congrArg (fun x => x.data.toList) e
  simpa using this)
theorem grpG_ilen {α β : Type} [DecidableEq α] {κ : Nat → α} {arc : Nat → β} (k : Nat) : ∀ x, x ∈ grpG κ arc k → x.length ≤ k := fun x hx => by
  obtain ⟨r, -, rfl⟩ := List.mem_map.1 hx
  rw [List.length_map]
  have := List.length_filter_le (fun j => decide (κ j = κ r)) (List.range k)
  rw [List.length_range] at this
  exact this
def ssK (L : List Lf) (k : Nat) : List (List UInt8) := (repsG (fun k => sideB L (endsR L)[k]!) k).map fun k => sideB L (endsR L)[k]!
def outK (L : List Lf) (k : Nat) : List (List (PT × PT)) := grpG (fun k => sideB L (endsR L)[k]!) (arcK L) k
theorem ssK_len (L : List Lf) (k : Nat) : (ssK L k).length = (outK L k).length := by rw [ssK, outK, grpG_len, List.length_map]
theorem ssK_le (L : List Lf) (k : Nat) : (ssK L k).length ≤ k := by rw [ssK, List.length_map]; exact repsG_len k
theorem ssK_new {L : List Lf} {k : Nat} {s : List UInt8} (hs : s = sideB L (endsR L)[k]!) (h : s ∉ ssK L k) : ssK L (k + 1) = ssK L k ++ [s] ∧ outK L (k + 1) = outK L k ++ [[arcK L k]] := by
  rw [hs] at h ⊢
  refine ⟨?_, grpG_new h⟩
  have h' : sideB L (endsR L)[k]! ∉ (repsG (fun k => sideB L (endsR L)[k]!) k).map (fun k => sideB L (endsR L)[k]!) := h
  unfold ssK
  rw [repsG, if_neg h', List.map_append]
  rfl
theorem ssK_old {L : List Lf} {k i : Nat} {s : List UInt8} (hs : s = sideB L (endsR L)[k]!) (hi : i < (ssK L k).length) (h : (ssK L k)[i]! = s) : ssK L (k + 1) = ssK L k ∧ outK L (k + 1) = (outK L k).modify i (· ++ [arcK L k]) := by
  have hi2 : i < (repsG (fun k => sideB L (endsR L)[k]!) k).length := by simpa [ssK] using hi
  rw [getElem!_pos (ssK L k) i hi] at h
  have h2 : sideB L (endsR L)[(repsG (fun k => sideB L (endsR L)[k]!) k)[i]]! = sideB L (endsR L)[k]! := by
    rw [← hs, ← h]
    simp [ssK]
  have hm : sideB L (endsR L)[k]! ∈ (repsG (fun k => sideB L (endsR L)[k]!) k).map (fun k => sideB L (endsR L)[k]!) := by
    rw [← h2]
    exact List.mem_map_of_mem (f := fun k => sideB L (endsR L)[k]!) (List.getElem_mem hi2)
  refine ⟨?_, grpG_old (κ := fun k => sideB L (endsR L)[k]!) hi2 h2⟩
  unfold ssK
  rw [repsG, if_pos hm]
set_option maxRecDepth 100000 in
set_option maxHeartbeats 8000000 in
theorem rlgaps_any (B : Nat) (v : Value) (L : List Lf) (w : World) (hv : RRow w B v L) (hL : LOk L) (hlen : L.length ≤ 4096) :
    Calls Tryz.prog 49 #[v] w (fun e w' => ∃ v' vs, e = .returned v' ∧ NestP w' w.heap.size 71 74 6 leafE [] v' vs (gapsL L) ∧ Below w.heap.size w w') := by
  obtain ⟨A, c, rfl, hA⟩ := RRow.form hv
  obtain ⟨i1, ji, jz0, jz1, jz2⟩ := info_parts info_arcG
  obtain ⟨i2, si, sz0, sz1, sz2⟩ := info_parts info_sarcG
  obtain ⟨i3, ti, tz0, tz1, tz2⟩ := info_parts info_strG
  have cE := Lib.hid (fun W (h : RRow W B (.slice A L.length c) L) => rlends_any B _ L W h hL.ang hlen)
  have cW : Hid (∀ i, i < L.length → ∀ (p : PT), Ang p → ∀ W, Calls Tryz.prog 68 #[.agg #[.int .u64 (L[i]!.1.1 : Int), .int .u64 (L[i]!.1.2 : Int), .int .u64 (L[i]!.2.1 : Int), .int .u64 (L[i]!.2.2 : Int)], .agg #[.int .u64 (p.1 : Int), .int .u64 (p.2 : Int)]] W (RetVal (.bool (withinP L[i]! p)) W)) := Lib.hid (fun i hi p hp W => rlwithin_any _ p W (hL.ang _ (getBang_mem hi)) hp)
  have cR : Hid (∀ (p : PT), Ang p → ∀ W, Calls Tryz.prog 72 #[.agg #[.int .u64 (p.1 : Int), .int .u64 (p.2 : Int)]] W (RetVal (.agg #[.bool false, .string (natS p.1), .string (natS p.2)]) W)) := Lib.hid (fun p hp W => rratio_any p.1 p.2 W (by have h1 := hp.2.1; have h2 := hp.2.2; omega) (by have h2 := hp.2.2; omega))
  have hRow := Lib.hid hv
  have hLk := Lib.hid hL
  obtain ⟨n, hn⟩ : ∃ n, n = L.length := ⟨_, rfl⟩
  obtain ⟨E, hE⟩ : ∃ E, E = endsR L := ⟨_, rfl⟩
  obtain ⟨nE, hnE⟩ : ∃ E', E' = E.length := ⟨_, rfl⟩
  obtain ⟨gapR, hgapR⟩ : ∃ r, r = gapsL L := ⟨_, rfl⟩
  rw [← hgapR]
  rw [← hn] at hRow hA hlen cE cW ⊢
  rw [← hE] at cE
  have hEa : Hid (∀ k, k < nE → Ang E[k]!) := Lib.hid (fun k hk => endsR_ang hL _ (by rw [← hE, getElem!_pos E k (by omega)]; exact List.getElem_mem (by omega)))
  have hE0 : Hid (nE = 0 → L = []) := Lib.hid (fun h => by
    rcases L with _ | ⟨l, r⟩
    · rfl
    · have : l.1 ∈ E := by rw [hE]; exact riseL_mem.2 (by simp [endsL])
      have := List.length_pos_of_mem this
      omega)
  have hE2 : nE ≤ 8192 := by
    rw [hnE, hE]
    have h1 := riseL_len (endsL L)
    rw [endsL_len, ← hn] at h1
    unfold endsR
    omega
  replace hn := Lib.hid hn
  replace hE := Lib.hid hE
  replace hgapR := Lib.hid hgapR
  clear hv hL
  have hB := Lib.hid (Below.refl w.heap.size w)
  go_enter Tryz.func49, Tryz.ntmps49
  go_wp2_with fail
  refine (cE.out _ hRow.out).mono ?_
  rintro en w1 ⟨vE, rfl, hQ, hb⟩
  replace hB := Lib.hid (hB.out.trans (hb.mono hB.out.size))
  obtain ⟨AE, cE', hvE, hAE⟩ := QRow.form hQ
  subst hvE
  rw [← hnE] at hAE ⊢
  replace hQ := Lib.hid hQ
  clear hb cE
  replace hnE := Lib.hid hnE
  by_cases hz : nE = 0
  case pos =>
    subst hz
    have hLe : Hid (gapR = [[((0, 1), (0, 1))]]) := Lib.hid (by rw [hgapR.out, hE0.out rfl]; rfl)
    have hA01 : Ang (0, 1) := ⟨by decide, by decide, by decide⟩
    have cR1 : ∀ d os, Calls Tryz.prog 72 #[.agg #[.int .u64 0, .int .u64 1]] (grow (redrawn (w1.alloc (.cells #[.int .u64 0, .int .u64 1] 42)) d) os) fun e w'' => e = .returned (.agg #[.bool false, .string (natS 0), .string (natS 1)]) ∧ ∃ p : Regrown, w'' = grow (redrawn (w1.alloc (.cells #[.int .u64 0, .int .u64 1] 42)) p.d) p.os := fun d os => Calls.regrown_of (cR.out (0, 1) hA01 _)
    clear cR cW hEa hE0 hAE hQ
    go_upto_region 4 with fail
    have k1 := Lib.hid (Blk.new w1 42 #[.int .u64 0, .int .u64 1])
    replace hB := Lib.hid (hB.out.alloc hB.out.size (.cells #[.int .u64 0, .int .u64 1] 42))
    generalize hW : w1.alloc (.cells #[.int .u64 0, .int .u64 1] 42) = w2 at hB k1 cR1 ⊢
    generalize hgg : w1.heap.size = g1 at k1 ⊢
    clear hW hgg
    have b0 : ∀ d os, (grow (redrawn w2 d) os).cell? ⟨g1, 0, none⟩ = some (.int .u64 0) := cell_regrown (k1.out.cell 0)
    have b1 : ∀ d os, (grow (redrawn w2 d) os).cell? ⟨g1, 1, none⟩ = some (.int .u64 1) := cell_regrown (k1.out.cell 1)
    clear k1
    refine wp_region_tail_below 5 (by kernel_rfl) (by kernel_rfl) ?_
    simp only [List.take_succ_cons, List.take_zero, List.drop_succ_cons, List.drop_zero]
    iterate 1 (quiet_step (fail))
    quiet_step (exact cR1 _ _)
    iterate 1 (quiet_step (fail))
    quiet_step (exact cR1 _ _)
    iterate 1 (quiet_step (fail))
    refine wpQuiet_nil ?_
    intro w3 hb2
    replace hB := Lib.hid (hB.out.trans (hb2.mono hB.out.size))
    clear hb2 cR1 b0 b1
    go_wp2_with fail
    go_ret
    have kA := Blk.new w3 74 #[.bool false, .string (natS 0), .string (natS 1), .bool false, .string (natS 0), .string (natS 1)]
    have kO := Blk.new (w3.alloc (.cells #[.bool false, .string (natS 0), .string (natS 1), .bool false, .string (natS 0), .string (natS 1)] 74)) 71 #[.slice (some ⟨w3.heap.size, 0, none⟩) 1 1]
    have s0 : Sep w3 ([] : List It) := Sep.nil
    have s1 := s0.newR (a := itRow w.heap.size 74 6 (.slice (some ⟨w3.heap.size, 0, none⟩) 1 1) 1 (leafE ((0, 1), (0, 1)))) (World.grownBy_alloc w3 (.cells #[.bool false, .string (natS 0), .string (natS 1), .bool false, .string (natS 0), .string (natS 1)] 74) none) (own_blk kA rfl hB.out.size (by unfold maxLen; omega)) (fun k hk => by have hk : some w3.heap.size = some k := hk; injection hk with hk; omega)
    rw [World.size_alloc] at kO
    have s2 := s1.new (a := itRow w.heap.size 71 1 (.slice (some ⟨w3.heap.size + 1, 0, none⟩) 1 1) 1 [.slice (some ⟨w3.heap.size, 0, none⟩) 1 1]) (World.grownBy_alloc _ (.cells #[.slice (some ⟨w3.heap.size, 0, none⟩) 1 1] 71) none) (own_blk kO rfl (by have := hB.out.size; omega) (by unfold maxLen; omega)) (fun k hk => by have hk : some (w3.heap.size + 1) = some k := hk; injection hk with hk; simp; omega)
    refine ⟨_, [.slice (some ⟨w3.heap.size, 0, none⟩) 1 1], rfl, ?_, (hB.out.alloc hB.out.size _).alloc (by have := hB.out.size; simp; omega) _⟩
    rw [hLe.out]
    exact ⟨rfl, s2⟩
  case neg =>
    have hne : L ≠ [] := fun e => hz (by rw [hnE.out, hE.out, e]; rfl)
    have hfin : Hid (gapR = outK L nE) := Lib.hid (by rw [hgapR.out, gapsL_side hLk.out hne, hnE.out, hE.out]; rfl)
    have hnp : 0 < n := by rw [hn.out]; exact List.length_pos_iff.2 hne
    have hE1 : 0 < nE := by omega
    obtain ⟨gE, rfl⟩ := hAE hE1
    obtain ⟨g, rfl⟩ := hA hnp
    clear hE0 hgapR hne hAE hA
    obtain ⟨cE, hcE⟩ : ∃ q, q = cE' := ⟨_, rfl⟩
    rw [← hcE] at hQ ⊢
    clear hcE
    have hz0b : ((nE : Int) == 0) = false := by simp; omega
    have hS0 : Hid (NestP w1 w.heap.size 71 74 6 leafE [itRow w.heap.size 42 2 (.slice (some ⟨gE, 0, none⟩) nE cE) nE (E.flatMap enc2), itRow w.heap.size 9 1 (.slice none 0 0) (ssK L 0).length ((ssK L 0).map encS)] (.slice none 0 0) [] (outK L 0)) := Lib.hid (by
      have s0 : Sep w1 ([] ++ [itRow w.heap.size 42 2 (.slice (some ⟨gE, 0, none⟩) nE cE) nE (E.flatMap enc2)]) := Sep.nil.snoc (show w1.ownsRow w.heap.size 42 2 (.slice (some ⟨gE, 0, none⟩) nE cE) nE (E.flatMap enc2) by have h := hQ.out; unfold QRow at h; rw [← hnE.out] at h; exact h) (fun x hx => by simp at hx)
      have s1 := s0.snoc (a := itRow w.heap.size 9 1 (.slice none 0 0) (ssK L 0).length ((ssK L 0).map encS)) (World.ownsRow_nil _ _ _ _) (fun x _ k hk => by cases hk)
      have s3 := s1.snoc (a := itRow w.heap.size 71 1 (.slice none 0 0) 0 []) (World.ownsRow_nil _ _ _ _) (fun x _ k hk => by cases hk)
      exact ⟨rfl, s3⟩)
    clear hQ
    go_wp2_with fail
    clear hz0b
    go_loopg [5, 6, 7] nE (fun kx s5 s6 s7 wr => ∃ (k : Nat) (v5 v6 : Value) (vs : List Value), v5 = s5 ∧ v6 = s6 ∧ s7 = .int .i64 (k : Int) ∧ k ≤ nE ∧ nE - k ≤ kx ∧ Hid (NestP wr w.heap.size 71 74 6 leafE [itRow w.heap.size 42 2 (.slice (some ⟨gE, 0, none⟩) nE cE) nE (E.flatMap enc2), itRow w.heap.size 9 1 v6 (ssK L k).length ((ssK L k).map encS)] v5 vs (outK L k)) ∧ Hid (Below w.heap.size w wr))
    case atStart => exact ⟨0, _, _, [], rfl, rfl, rfl, Nat.zero_le _, Nat.le_refl _, hS0, hB⟩
    case round =>
      clear hB hS0
      obtain ⟨k, v5, v6, vs, rfl, rfl, rfl, hkn, hg, hS, hB⟩ := hrel
      by_cases hlt : k < nE
      case neg =>
        obtain rfl : k = nE := by omega
        clear cR cW hEa
        go_wp2_with fail
        go_ret
        exact ⟨_, vs, rfl, by rw [hfin.out]; exact hS.out.bare, hB.out⟩
      case pos =>
        have hkE : k < E.length := by rw [← hnE.out]; exact hlt
        obtain ⟨f, hf⟩ : ∃ f, f = E[k]! := ⟨_, rfl⟩
        have hfA : Ang f := by rw [hf]; exact hEa.out k hlt
        obtain ⟨qn, hqn⟩ : ∃ q, q = (k + 1) % nE := ⟨_, rfl⟩
        have hqlt : qn < nE := by rw [hqn]; exact Nat.mod_lt _ hE1
        obtain ⟨f2, hf2⟩ : ∃ f, f = E[qn]! := ⟨_, rfl⟩
        have hf2A : Ang f2 := by rw [hf2]; exact hEa.out qn hqlt
        have harc : Hid (arcK L k = (f, f2)) := Lib.hid (by rw [arcK, hf, hf2, hqn, hE.out, hnE.out, hE.out])
        have hCE : Hid (∀ W : World, W.ownsRow w.heap.size 42 2 (.slice (some ⟨gE, 0, none⟩) nE cE) nE (E.flatMap enc2) → (∀ (j : Nat) (u : Value), (enc2 f)[j]? = some u → W.cell? ⟨gE, k * 2 + j, none⟩ = some u) ∧ (∀ (j : Nat) (u : Value), (enc2 f2)[j]? = some u → W.cell? ⟨gE, qn * 2 + j, none⟩ = some u)) := Lib.hid (fun W h => by
          have h2 : QRow W w.heap.size (.slice (some ⟨gE, 0, none⟩) nE cE) E := by unfold QRow; rw [← hnE.out]; exact h
          rw [hf, hf2]
          exact ⟨QRow.cell h2 hkE, QRow.cell h2 (by rw [← hnE.out]; exact hqlt)⟩)
        have hc2 := (hCE.out wr (hS.out.2.get (a := itRow w.heap.size 42 2 (.slice (some ⟨gE, 0, none⟩) nE cE) nE (E.flatMap enc2)) (by simp))).2
        have c0 : wr.cell? ⟨gE, (k + 1) % nE * 2, none⟩ = some (.int .u64 (f2.1 : Int)) := by rw [← hqn]; exact hc2 0 _ rfl
        have c1 : wr.cell? ⟨gE, (k + 1) % nE * 2 + 1, none⟩ = some (.int .u64 (f2.2 : Int)) := by rw [← hqn]; exact hc2 1 _ rfl
        have hqt : (IntKind.i64.wrap ((k : Int) + 1)).tmod (nE : Int) = (qn : Int) := by
          have e : IntKind.i64.wrap ((k : Int) + 1) = (k : Int) + 1 := by rw [IntKind.wrap_i64]; omega
          rw [e, hqn, Int.tmod_eq_emod_of_nonneg (by omega)]; rfl
        have hnE0 : ¬ nE = 0 := by omega
        have hnE0z : ¬ (nE : Int) = 0 := by omega
        have hqz : ((k : Int) + 1) % (nE : Int) < (nE : Int) := Int.emod_lt_of_pos _ (by omega)
        have hqz2 : (0 : Int) ≤ ((k : Int) + 1) % (nE : Int) := Int.emod_nonneg _ (by omega)
        have hkz : (k : Int) < (nE : Int) := by omega
        clear hc2 hkE
        replace hf := Lib.hid hf
        replace hf2 := Lib.hid hf2
        replace hqn := Lib.hid hqn
        replace hfA := Lib.hid hfA
        replace hf2A := Lib.hid hf2A
        go_upto_region 11 with fail
        replace hB := Lib.hid (hB.out.alloc hB.out.size (.cells #[.int .u64 (f2.1 : Int), .int .u64 (f2.2 : Int)] 42))
        replace hS : Hid (NestP (wr.alloc (.cells #[.int .u64 (f2.1 : Int), .int .u64 (f2.2 : Int)] 42)) w.heap.size 71 74 6 leafE [itRow w.heap.size 42 2 (.slice (some ⟨gE, 0, none⟩) nE cE) nE (E.flatMap enc2), itRow w.heap.size 9 1 v6 (ssK L k).length ((ssK L k).map encS), itBlk wr.heap.size 42 #[.int .u64 (f2.1 : Int), .int .u64 (f2.2 : Int)]] v5 vs (outK L k)) := Lib.hid (hS.out.addNew (World.grownBy_alloc wr (.cells #[.int .u64 (f2.1 : Int), .int .u64 (f2.2 : Int)] 42) none) (Blk.new wr 42 #[.int .u64 (f2.1 : Int), .int .u64 (f2.2 : Int)]) (fun q hq => by injection hq with hq; exact Nat.le_of_eq hq))
        generalize hW : wr.alloc (.cells #[.int .u64 (f2.1 : Int), .int .u64 (f2.2 : Int)] 42) = wa at hB hS ⊢
        generalize hg8 : wr.heap.size = g8 at hS ⊢
        clear hW hg8 c0 c1 hqt hnE0 hnE0z hqz hqz2 wr
        have hmk := make_u8 n (by omega)
        go_upto_block 2 with fail
        have hg9w : w.heap.size ≤ wa.heap.size := hB.out.size
        replace hB := Lib.hid (hB.out.alloc hB.out.size (.cells (ivs .u8 (List.replicate n 0)).toArray 5))
        replace hS : Hid (NestP (wa.alloc (.cells (ivs .u8 (List.replicate n 0)).toArray 5)) w.heap.size 71 74 6 leafE [itRow w.heap.size 42 2 (.slice (some ⟨gE, 0, none⟩) nE cE) nE (E.flatMap enc2), itRow w.heap.size 9 1 v6 (ssK L k).length ((ssK L k).map encS), itBlk g8 42 #[.int .u64 (f2.1 : Int), .int .u64 (f2.2 : Int)], itBlk wa.heap.size 5 (ivs .u8 (rowN L f 0)).toArray] v5 vs (outK L k)) := Lib.hid (by
          rw [rowN_zero, ← hn.out]
          exact hS.out.addNew (World.grownBy_alloc wa (.cells (ivs .u8 (List.replicate n 0)).toArray 5) none) (Blk.new wa 5 (ivs .u8 (List.replicate n 0)).toArray) (fun q hq => by injection hq with hq; exact Nat.le_of_eq hq))
        generalize hW : wa.alloc (.cells (ivs .u8 (List.replicate n 0)).toArray 5) = wb at hB hS ⊢
        generalize hg9 : wa.heap.size = g9 at hS hg9w ⊢
        clear hW hg9 hmk wa
        go_cut [10] from 27 to 117 (fun s10 wx => s10 = .int .i64 (n : Int) ∧ Hid (NestP wx w.heap.size 71 74 6 leafE [itRow w.heap.size 42 2 (.slice (some ⟨gE, 0, none⟩) nE cE) nE (E.flatMap enc2), itRow w.heap.size 9 1 v6 (ssK L k).length ((ssK L k).map encS), itBlk g8 42 #[.int .u64 (f2.1 : Int), .int .u64 (f2.2 : Int)], itBlk g9 5 (ivs .u8 (sideN L f)).toArray] v5 vs (outK L k)) ∧ Hid (Below w.heap.size w wx))
        case first =>
          go_wp2_with fail
          go_loopg [10] n (fun kx s10 wr => ∃ j : Nat, s10 = .int .i64 (j : Int) ∧ j ≤ n ∧ n - j ≤ kx ∧ Hid (NestP wr w.heap.size 71 74 6 leafE [itRow w.heap.size 42 2 (.slice (some ⟨gE, 0, none⟩) nE cE) nE (E.flatMap enc2), itRow w.heap.size 9 1 v6 (ssK L k).length ((ssK L k).map encS), itBlk g8 42 #[.int .u64 (f2.1 : Int), .int .u64 (f2.2 : Int)], itBlk g9 5 (ivs .u8 (rowN L f j)).toArray] v5 vs (outK L k)) ∧ Hid (Below w.heap.size w wr))
          case atStart => exact ⟨0, rfl, Nat.zero_le _, Nat.le_refl _, hS, hB⟩
          case round =>
            clear hB hS
            obtain ⟨j, rfl, hjn, hgj, hS, hB⟩ := hrel
            by_cases hlj : j < n
            case neg =>
              obtain rfl : n = j := by omega
              have e : rowN L f n = sideN L f := by rw [hn.out, rowN_full]
              rw [e] at hS
              clear e
              go_wp2_with fail
              go_meet
              case rel => exact ⟨rfl, hS, hB⟩
            case pos =>
              have hjl : j < L.length := by rw [← hn.out]; exact hlj
              obtain ⟨m, hm⟩ : ∃ m, m = L[j]! := ⟨_, rfl⟩
              have hC := RRow.cell (by have h := RRow.below hRow.out hB.out; rw [hn.out] at h; exact h) hjl
              rw [← hm] at hC
              have hcf := (hCE.out wr (hS.out.2.get (a := itRow w.heap.size 42 2 (.slice (some ⟨gE, 0, none⟩) nE cE) nE (E.flatMap enc2)) (by simp))).1
              obtain ⟨wi, hwi⟩ : ∃ b, b = withinP m f := ⟨_, rfl⟩
              have x1 : ∀ d os, Calls Tryz.prog 68 #[.agg #[.int .u64 (m.1.1 : Int), .int .u64 (m.1.2 : Int), .int .u64 (m.2.1 : Int), .int .u64 (m.2.2 : Int)], .agg #[.int .u64 (f.1 : Int), .int .u64 (f.2 : Int)]] (grow (redrawn wr d) os) fun e w'' => e = .returned (.bool wi) ∧ ∃ p : Regrown, w'' = grow (redrawn wr p.d) p.os := fun d os => by
                have h := cW.out j hlj f hfA.out (grow (redrawn wr d) os)
                rw [← hm, ← hwi] at h
                exact Calls.regrown_of h
              obtain ⟨sb, hsb⟩ : ∃ b, b = sideU m f := ⟨_, rfl⟩
              have hsb2 : Hid (sb = (wi || decide (f = m.1))) := Lib.hid (by rw [hsb, hwi]; rfl)
              have hstep : Hid (rowN L f (j + 1) = if sb then (rowN L f j).set j 1 else rowN L f j) := Lib.hid (by rw [rowN_step hjl, hsb, hm])
              have hget : Hid ((rowN L f j)[j]? = some 0) := Lib.hid (rowN_get hjl)
              have hjz : (j : Int) < (n : Int) := by omega
              replace hm := Lib.hid hm
              have m0 : ∀ d os, (grow (redrawn wr d) os).cell? ⟨g, j * 4, none⟩ = some (.int .u64 (m.1.1 : Int)) := cell_regrown (hC 0 _ rfl)
              have m1 : ∀ d os, (grow (redrawn wr d) os).cell? ⟨g, j * 4 + 1, none⟩ = some (.int .u64 (m.1.2 : Int)) := cell_regrown (hC 1 _ rfl)
              have m2 : ∀ d os, (grow (redrawn wr d) os).cell? ⟨g, j * 4 + 2, none⟩ = some (.int .u64 (m.2.1 : Int)) := cell_regrown (hC 2 _ rfl)
              have m3 : ∀ d os, (grow (redrawn wr d) os).cell? ⟨g, j * 4 + 3, none⟩ = some (.int .u64 (m.2.2 : Int)) := cell_regrown (hC 3 _ rfl)
              have f0_ : ∀ d os, (grow (redrawn wr d) os).cell? ⟨gE, k * 2, none⟩ = some (.int .u64 (f.1 : Int)) := cell_regrown (hcf 0 _ rfl)
              have f1_ : ∀ d os, (grow (redrawn wr d) os).cell? ⟨gE, k * 2 + 1, none⟩ = some (.int .u64 (f.2 : Int)) := cell_regrown (hcf 1 _ rfl)
              clear hC hjl hwi hsb hcf
              go_upto_region 15 with fail
              refine wp_region_quiet_below (by kernel_rfl) (by kernel_rfl) ?_
              iterate 8 (quiet_step (fail))
              quiet_step (exact x1 _ _)
              quiet_step (fail)
              clear x1
              cases wi
              case true =>
                obtain rfl : sb = true := by rw [hsb2.out]; rfl
                iterate 10 (generalize haa : Act.mk _ _ = aa; refine wpQuiet_skip ?_ ?_; (· subst haa; simp [Region.wanted, yielded]); subst haa; intro Kq hKq; go_simp; refine hKq _ ?_; clear hKq Kq)
                quiet_step (fail)
                refine wpQuiet_nil ?_
                intro w3 hw'
                have hb : Below wr.heap.size wr w3 := by
                  obtain ⟨p, rfl⟩ := hw'
                  exact below_regrown wr p.d p.os
                replace hS := Lib.hid (hS.out.below hb)
                replace hB := Lib.hid (hB.out.trans (hb.mono hB.out.size))
                clear hw' hb m0 m1 m2 m3 f0_ f1_
                have hBk : Blk w3 g9 5 (ivs .u8 (rowN L f j)).toArray := hS.out.2.get (a := itBlk g9 5 (ivs .u8 (rowN L f j)).toArray) (by simp)
                have s0 : w3.cell? ⟨g9, j, none⟩ = some (.int .u8 0) := Arr.cell (k := .u8) (L := rowN L f j) hBk hget.out
                have sf : w3.frozen? ⟨g9, j, none⟩ = false := Arr.frozen (k := .u8) (L := rowN L f j) hBk j
                have hS2 : Hid (NestP (w3.setCell ⟨g9, j, none⟩ (.int .u8 1)) w.heap.size 71 74 6 leafE [itRow w.heap.size 42 2 (.slice (some ⟨gE, 0, none⟩) nE cE) nE (E.flatMap enc2), itRow w.heap.size 9 1 v6 (ssK L k).length ((ssK L k).map encS), itBlk g8 42 #[.int .u64 (f2.1 : Int), .int .u64 (f2.2 : Int)], itBlk g9 5 (ivs .u8 (rowN L f (j + 1))).toArray] v5 vs (outK L k)) := Lib.hid (by
                  refine hS.out.side (A := [itRow w.heap.size 42 2 (.slice (some ⟨gE, 0, none⟩) nE cE) nE (E.flatMap enc2), itRow w.heap.size 9 1 v6 (ssK L k).length ((ssK L k).map encS), itBlk g8 42 #[.int .u64 (f2.1 : Int), .int .u64 (f2.2 : Int)]]) (C := []) (a' := itBlk g9 5 (ivs .u8 (rowN L f (j + 1))).toArray) (gb_of_but (But.set1 w3 g9 j _)) ?_ (fun q hq => .inl hq)
                  rw [hstep.out, if_pos rfl]
                  exact Arr.set_ (k := .u8) (L := rowN L f j) hBk j 1)
                have hB2 : Hid (Below w.heap.size w (w3.setCell ⟨g9, j, none⟩ (.int .u8 1))) := Lib.hid (hB.out.trans ((But.set1 w3 g9 j _).toBelow hB.out.size (fun k hk e => by have := hg9w; omega)))
                clear hBk hS hB
                go_wp2_with fail
                go_roundg (n - (j + 1))
                case measure => omega
                case rel => exact ⟨j + 1, by go_num, by omega, Nat.le_refl _, hS2, hB2⟩
              case false =>
                rcases ipair f m.1 with ⟨e0, e1, e2⟩ | ⟨e0, e1, e2⟩ | ⟨e0, e1⟩
                · skip
                  obtain rfl : sb = true := by rw [hsb2.out]; exact decide_eq_true e0
                  clear e0
                  iterate 11 (quiet_step (fail))
                  refine wpQuiet_nil ?_
                  intro w3 hw'
                  have hb : Below wr.heap.size wr w3 := by
                    obtain ⟨p, rfl⟩ := hw'
                    exact below_regrown wr p.d p.os
                  replace hS := Lib.hid (hS.out.below hb)
                  replace hB := Lib.hid (hB.out.trans (hb.mono hB.out.size))
                  clear hw' hb m0 m1 m2 m3 f0_ f1_
                  have hBk : Blk w3 g9 5 (ivs .u8 (rowN L f j)).toArray := hS.out.2.get (a := itBlk g9 5 (ivs .u8 (rowN L f j)).toArray) (by simp)
                  have s0 : w3.cell? ⟨g9, j, none⟩ = some (.int .u8 0) := Arr.cell (k := .u8) (L := rowN L f j) hBk hget.out
                  have sf : w3.frozen? ⟨g9, j, none⟩ = false := Arr.frozen (k := .u8) (L := rowN L f j) hBk j
                  have hS2 : Hid (NestP (w3.setCell ⟨g9, j, none⟩ (.int .u8 1)) w.heap.size 71 74 6 leafE [itRow w.heap.size 42 2 (.slice (some ⟨gE, 0, none⟩) nE cE) nE (E.flatMap enc2), itRow w.heap.size 9 1 v6 (ssK L k).length ((ssK L k).map encS), itBlk g8 42 #[.int .u64 (f2.1 : Int), .int .u64 (f2.2 : Int)], itBlk g9 5 (ivs .u8 (rowN L f (j + 1))).toArray] v5 vs (outK L k)) := Lib.hid (by
                    refine hS.out.side (A := [itRow w.heap.size 42 2 (.slice (some ⟨gE, 0, none⟩) nE cE) nE (E.flatMap enc2), itRow w.heap.size 9 1 v6 (ssK L k).length ((ssK L k).map encS), itBlk g8 42 #[.int .u64 (f2.1 : Int), .int .u64 (f2.2 : Int)]]) (C := []) (a' := itBlk g9 5 (ivs .u8 (rowN L f (j + 1))).toArray) (gb_of_but (But.set1 w3 g9 j _)) ?_ (fun q hq => .inl hq)
                    rw [hstep.out, if_pos rfl]
                    exact Arr.set_ (k := .u8) (L := rowN L f j) hBk j 1)
                  have hB2 : Hid (Below w.heap.size w (w3.setCell ⟨g9, j, none⟩ (.int .u8 1))) := Lib.hid (hB.out.trans ((But.set1 w3 g9 j _).toBelow hB.out.size (fun k hk e => by have := hg9w; omega)))
                  clear hBk hS hB
                  go_wp2_with fail
                  go_roundg (n - (j + 1))
                  case measure => omega
                  case rel => exact ⟨j + 1, by go_num, by omega, Nat.le_refl _, hS2, hB2⟩
                · skip
                  obtain rfl : sb = false := by rw [hsb2.out]; exact decide_eq_false e0
                  clear e0
                  iterate 11 (quiet_step (fail))
                  refine wpQuiet_nil ?_
                  intro w3 hw'
                  have hb : Below wr.heap.size wr w3 := by
                    obtain ⟨p, rfl⟩ := hw'
                    exact below_regrown wr p.d p.os
                  replace hS := Lib.hid (hS.out.below hb)
                  replace hB := Lib.hid (hB.out.trans (hb.mono hB.out.size))
                  clear hw' hb m0 m1 m2 m3 f0_ f1_
                  have e : rowN L f (j + 1) = rowN L f j := by rw [hstep.out, if_neg (by decide)]
                  go_wp2_with fail
                  go_roundg (n - (j + 1))
                  case measure => omega
                  case rel => exact ⟨j + 1, by go_num, by omega, Nat.le_refl _, by rw [e]; exact hS, hB⟩
                · skip
                  obtain rfl : sb = false := by rw [hsb2.out]; exact decide_eq_false e0
                  clear e0
                  iterate 11 (quiet_step (fail))
                  refine wpQuiet_nil ?_
                  intro w3 hw'
                  have hb : Below wr.heap.size wr w3 := by
                    obtain ⟨p, rfl⟩ := hw'
                    exact below_regrown wr p.d p.os
                  replace hS := Lib.hid (hS.out.below hb)
                  replace hB := Lib.hid (hB.out.trans (hb.mono hB.out.size))
                  clear hw' hb m0 m1 m2 m3 f0_ f1_
                  have e : rowN L f (j + 1) = rowN L f j := by rw [hstep.out, if_neg (by decide)]
                  go_wp2_with fail
                  go_roundg (n - (j + 1))
                  case measure => omega
                  case rel => exact ⟨j + 1, by go_num, by omega, Nat.le_refl _, by rw [e]; exact hS, hB⟩
        clear hS hB
        obtain ⟨rfl, hS, hB⟩ := hcut
        obtain ⟨ss, hss⟩ : ∃ s, s = ssK L k := ⟨_, rfl⟩
        obtain ⟨out, hout⟩ : ∃ s, s = outK L k := ⟨_, rfl⟩
        obtain ⟨sd, hsd⟩ : ∃ s, s = sideB L f := ⟨_, rfl⟩
        have hsk : Hid (sd = sideB L (endsR L)[k]!) := Lib.hid (by rw [hsd, hf.out, hE.out])
        rw [← hss, ← hout] at hS
        have hNew : Hid (sd ∉ ss → ssK L (k + 1) = ss ++ [sd] ∧ outK L (k + 1) = out ++ [[(f, f2)]]) := Lib.hid (fun h => by rw [hss, hout, ← harc.out]; exact ssK_new hsk.out (by rw [← hss]; exact h))
        have hOld : Hid (∀ i, i < ss.length → ss[i]! = sd → ssK L (k + 1) = ss ∧ outK L (k + 1) = out.modify i (· ++ [(f, f2)])) := Lib.hid (fun i hi h => by rw [hss, hout, ← harc.out]; exact ssK_old hsk.out (by rw [← hss]; exact hi) (by rw [← hss]; exact h))
        have hsl : Hid (ss.length = out.length) := Lib.hid (by rw [hss, hout]; exact ssK_len L k)
        have hsk2 : ss.length ≤ k := by rw [hss]; exact ssK_le L k
        have hol : Hid (∀ x, x ∈ out → x.length ≤ k) := Lib.hid (by rw [hout]; exact grpG_ilen k)
        obtain ⟨ns, hns⟩ : ∃ q, q = ss.length := ⟨_, rfl⟩
        have hrow6 : wc.ownsRow w.heap.size 9 1 v6 ss.length (ss.map encS) := hS.out.2.get (a := itRow w.heap.size 9 1 v6 (ss).length ((ss).map encS)) (by simp)
        rw [← hns] at hrow6 hsk2
        obtain ⟨AS, cS, rfl, -, hAS⟩ := own_form hrow6
        replace hrow6 := Lib.hid hrow6
        have hcvN : Hid (∀ W, Blk W g9 5 (ivs .u8 (sideN L f)).toArray → (convert 118 9 (.slice (some ⟨g9, 0, none⟩) n n)).run Tryz.prog W = .ok (.string ⟨sd.toArray⟩) W) := Lib.hid (fun W h => by
          have h2 := conv_str W g9 (sideN L f) n h (sideN_lt L f) 9 Tryz.underlying9
          rw [sideN_B, ← hsd] at h2
          rw [show n = (sideN L f).length by rw [hn.out]; simp [sideN]] at h2 ⊢
          exact h2)
        replace hss := Lib.hid hss
        replace hout := Lib.hid hout
        replace hsd := Lib.hid hsd
        replace hns := Lib.hid hns
        replace hAS := Lib.hid hAS
        clear harc hsk
        go_upto_block 4 with fail
        go_cut [11, 12] from 27 to 117 (fun s11 s12 wx => ∃ at_ : Int, s11 = .int .i64 at_ ∧ s12 = .int .i64 (ns : Int) ∧ Hid ((at_ = -1 ∧ sd ∉ ss) ∨ (∃ i : Nat, i < ns ∧ at_ = (i : Int) ∧ ss[i]! = sd)) ∧ Hid (NestP wx w.heap.size 71 74 6 leafE [itRow w.heap.size 42 2 (.slice (some ⟨gE, 0, none⟩) nE cE) nE (E.flatMap enc2), itRow w.heap.size 9 1 (.slice AS ns cS) (ss).length ((ss).map encS), itBlk g8 42 #[.int .u64 (f2.1 : Int), .int .u64 (f2.2 : Int)], itBlk g9 5 (ivs .u8 (sideN L f)).toArray] v5 vs out) ∧ Hid (Below w.heap.size w wx))
        case first =>
          go_wp2_with fail
          go_loopg [11, 12] ns (fun kx s11 s12 wr => ∃ (t : Nat) (at_ : Int), s12 = .int .i64 (t : Int) ∧ s11 = .int .i64 at_ ∧ t ≤ ns ∧ ns - t ≤ kx ∧ Hid ((at_ = -1 ∧ ∀ i, i < t → ss[i]! ≠ sd) ∨ (∃ i : Nat, i < ns ∧ at_ = (i : Int) ∧ ss[i]! = sd)) ∧ Hid (NestP wr w.heap.size 71 74 6 leafE [itRow w.heap.size 42 2 (.slice (some ⟨gE, 0, none⟩) nE cE) nE (E.flatMap enc2), itRow w.heap.size 9 1 (.slice AS ns cS) (ss).length ((ss).map encS), itBlk g8 42 #[.int .u64 (f2.1 : Int), .int .u64 (f2.2 : Int)], itBlk g9 5 (ivs .u8 (sideN L f)).toArray] v5 vs out) ∧ Hid (Below w.heap.size w wr))
          case atStart => exact ⟨0, -1, rfl, rfl, Nat.zero_le _, Nat.le_refl _, Lib.hid (.inl ⟨rfl, fun i hi => absurd hi (Nat.not_lt_zero _)⟩), hS, hB⟩
          case round =>
            clear hB hS hrow6
            obtain ⟨t, at_, rfl, rfl, htn, hgt, I, hS, hB⟩ := hrel
            by_cases hlt2 : t < ns
            case neg =>
              obtain rfl : ns = t := by omega
              have hfin2 : Hid ((at_ = -1 ∧ sd ∉ ss) ∨ (∃ i : Nat, i < ns ∧ at_ = (i : Int) ∧ ss[i]! = sd)) := Lib.hid (by
                rcases I.out with ⟨e, h⟩ | h
                · refine .inl ⟨e, fun hmem => ?_⟩
                  obtain ⟨i, hi, e2⟩ := List.mem_iff_getElem.1 hmem
                  exact h i (by rw [hns.out]; exact hi) (by rw [getElem!_pos ss i hi]; exact e2)
                · exact .inr h)
              clear I
              go_wp2_with fail
              go_meet
              case rel => exact ⟨_, rfl, rfl, hfin2, hS, hB⟩
            case pos =>
              have htl : t < ss.length := by rw [← hns.out]; exact hlt2
              obtain ⟨gs, hgs⟩ := hAS.out (by omega)
              subst hgs
              have hrow := hS.out.2.get (a := itRow w.heap.size 9 1 (.slice (some ⟨gs, 0, none⟩) ns cS) (ss).length ((ss).map encS)) (by simp)
              have hrow : wr.ownsRow w.heap.size 9 1 (.slice (some ⟨gs, 0, none⟩) ns cS) ss.length (ss.map encS) := hrow
              obtain ⟨st, hst⟩ : ∃ s, s = ss[t]! := ⟨_, rfl⟩
              have r0 : ∀ d os, (grow (redrawn wr d) os).cell? ⟨gs, t, none⟩ = some (.string ⟨st.toArray⟩) := cell_regrown (by
                rw [World.ownsRow.cellAt (by have h := hrow; rw [← hns.out] at h; exact h) t (by omega), List.getElem?_map, List.getElem?_eq_getElem htl, hst, getElem!_pos ss t htl]; rfl)
              have hBk : Blk wr g9 5 (ivs .u8 (sideN L f)).toArray := hS.out.2.get (a := itBlk g9 5 (ivs .u8 (sideN L f)).toArray) (by simp)
              have hcv : ∀ d os, (convert 118 9 (.slice (some ⟨g9, 0, none⟩) n n)).run Tryz.prog (grow (redrawn wr d) os) = .ok (.string ⟨sd.toArray⟩) (grow (redrawn wr d) os) := fun d os => hcvN.out _ (Blk.below hBk (below_regrown wr d os))
              have htz : (t : Int) < (ns : Int) := by omega
              replace hst := Lib.hid hst
              clear hrow hBk htl
              go_upto_region 21 with fail
              by_cases hs : st = sd
              case pos =>
                have h2 : Hid (ss[t]! = sd) := Lib.hid (by rw [← hst.out]; exact hs)
                subst hs
                refine wp_region_quiet_below (by kernel_rfl) (by kernel_rfl) ?_
                iterate 7 (quiet_step (fail))
                refine wpQuiet_nil ?_
                intro w3 hw'
                have hb : Below wr.heap.size wr w3 := by
                  obtain ⟨p, rfl⟩ := hw'
                  exact below_regrown wr p.d p.os
                replace hS := Lib.hid (hS.out.below hb)
                replace hB := Lib.hid (hB.out.trans (hb.mono hB.out.size))
                clear hw' hb r0 hcv
                go_wp2_with fail
                go_roundg (ns - (t + 1))
                case measure => omega
                case rel => exact ⟨t + 1, (t : Int), by go_num, rfl, by omega, Nat.le_refl _, Lib.hid (.inr ⟨t, hlt2, rfl, h2.out⟩), hS, hB⟩
              case neg =>
                have h2 : Hid (ss[t]! ≠ sd) := Lib.hid (by rw [← hst.out]; exact hs)
                have hsb := encS_ne hs
                have hsb2 : (st == sd) = false := by simpa using hs
                clear hs
                refine wp_region_quiet_below (by kernel_rfl) (by kernel_rfl) ?_
                iterate 7 (quiet_step (fail))
                refine wpQuiet_nil ?_
                intro w3 hw'
                have hb : Below wr.heap.size wr w3 := by
                  obtain ⟨p, rfl⟩ := hw'
                  exact below_regrown wr p.d p.os
                replace hS := Lib.hid (hS.out.below hb)
                replace hB := Lib.hid (hB.out.trans (hb.mono hB.out.size))
                clear hw' hb r0 hcv
                go_wp2_with fail
                go_roundg (ns - (t + 1))
                case measure => omega
                case rel =>
                  refine ⟨t + 1, at_, by go_num, rfl, by omega, Nat.le_refl _, Lib.hid ?_, hS, hB⟩
                  rcases I.out with ⟨e, h⟩ | h
                  · refine .inl ⟨e, fun i hi => ?_⟩
                    rcases Nat.lt_or_ge i t with h3 | h3
                    · exact h i h3
                    · obtain rfl : i = t := by omega
                      exact h2.out
                  · exact .inr h
        clear hS hB hrow6
        obtain ⟨at_, rfl, rfl, hat, hS, hB⟩ := hcut
        have hT1 := Lib.hid (cR.out f hfA.out)
        have hT2 := Lib.hid (cR.out f2 hf2A.out)
        go_upto_region 23 with fail
        go_cut [13] from 27 to 117 (fun s13 wx => ∃ g13 : Nat, s13 = .pointer (some ⟨g13, 0, none⟩) ∧ Hid (NestP wx w.heap.size 71 74 6 leafE [itRow w.heap.size 42 2 (.slice (some ⟨gE, 0, none⟩) nE cE) nE (E.flatMap enc2), itRow w.heap.size 9 1 (.slice AS ns cS) (ss).length ((ss).map encS), itBlk g8 42 #[.int .u64 (f2.1 : Int), .int .u64 (f2.2 : Int)], itBlk g9 5 (ivs .u8 (sideN L f)).toArray, itBlk g13 74 #[.bool false, .string (natS f.1), .string (natS f.2), .bool false, .string (natS f2.1), .string (natS f2.2)]] v5 vs out) ∧ Hid (Below w.heap.size w wx))
        case first =>
          have a0 : wc.cell? ⟨gE, k * 2, none⟩ = some (.int .u64 (f.1 : Int)) := (hCE.out wc (hS.out.2.get (a := itRow w.heap.size 42 2 (.slice (some ⟨gE, 0, none⟩) nE cE) nE (E.flatMap enc2)) (by simp))).1 0 _ rfl
          have a1 : wc.cell? ⟨gE, k * 2 + 1, none⟩ = some (.int .u64 (f.2 : Int)) := (hCE.out wc (hS.out.2.get (a := itRow w.heap.size 42 2 (.slice (some ⟨gE, 0, none⟩) nE cE) nE (E.flatMap enc2)) (by simp))).1 1 _ rfl
          have a2 : wc.cell? ⟨g8, 0, none⟩ = some (.int .u64 (f2.1 : Int)) := Blk.cell (T := 42) (cs := #[.int .u64 (f2.1 : Int), .int .u64 (f2.2 : Int)]) (hS.out.2.get (a := itBlk g8 42 #[.int .u64 (f2.1 : Int), .int .u64 (f2.2 : Int)]) (by simp)) 0
          have a3 : wc.cell? ⟨g8, 1, none⟩ = some (.int .u64 (f2.2 : Int)) := Blk.cell (T := 42) (cs := #[.int .u64 (f2.1 : Int), .int .u64 (f2.2 : Int)]) (hS.out.2.get (a := itBlk g8 42 #[.int .u64 (f2.1 : Int), .int .u64 (f2.2 : Int)]) (by simp)) 1
          have hswc : wc.heap.size ≤ wc.heap.size := Nat.le_refl _
          have hgE : gE < wc.heap.size := block_lt_of_cell a0
          have hg8 : g8 < wc.heap.size := block_lt_of_cell a2
          have hB1 := Lib.hid (Below.refl wc.heap.size wc)
          go_region_held3 (fun w' => w'.cell? ⟨gE, k * 2, none⟩ = some (.int .u64 (f.1 : Int)) ∧ w'.cell? ⟨gE, k * 2 + 1, none⟩ = some (.int .u64 (f.2 : Int)) ∧ w'.cell? ⟨g8, 0, none⟩ = some (.int .u64 (f2.1 : Int)) ∧ w'.cell? ⟨g8, 1, none⟩ = some (.int .u64 (f2.2 : Int))) (first | go_keep | exact ⟨keep_set6 o0 (by simp; omega), keep_set6 o1 (by simp; omega), keep_set6 o2 (by simp; omega), keep_set6 o3 (by simp; omega)⟩)
            (first
              | (go_at_call_of 72 (Value.int .u64 (f.1 : Int)); (with_reducible refine (hT1.out _).mono ?_); rintro en w2 ⟨rfl, hb⟩; have hb0 : Below wc.heap.size wc w2 := (by first | exact hb | exact (((Below.refl _ wc).drew).trans hb) | exact (((Below.refl _ wc).alloc (Nat.le_refl _) (.cells #[.bool false, .string ⟨#[]⟩, .string ⟨#[]⟩, .bool false, .string ⟨#[]⟩, .string ⟨#[]⟩] 74)).trans (hb.mono (by simp))) | exact ((((Below.refl _ wc).drew).alloc (Nat.le_refl _) (.cells #[.bool false, .string ⟨#[]⟩, .string ⟨#[]⟩, .bool false, .string ⟨#[]⟩, .string ⟨#[]⟩] 74)).trans (hb.mono (by simp)))); have hS2 := hS.out.below hb0; have hB2 : Below wc.heap.size wc w2 := hB1.out.trans (hb0.mono hB1.out.size); have hsw2 : wc.heap.size ≤ w2.heap.size := hB2.size; have m0 : w2.cell? ⟨gE, k * 2, none⟩ = some (.int .u64 (f.1 : Int)) := (hCE.out w2 (hS2.2.get (a := itRow w.heap.size 42 2 (.slice (some ⟨gE, 0, none⟩) nE cE) nE (E.flatMap enc2)) (by simp))).1 0 _ rfl; have m1 : w2.cell? ⟨gE, k * 2 + 1, none⟩ = some (.int .u64 (f.2 : Int)) := (hCE.out w2 (hS2.2.get (a := itRow w.heap.size 42 2 (.slice (some ⟨gE, 0, none⟩) nE cE) nE (E.flatMap enc2)) (by simp))).1 1 _ rfl; have m2 : w2.cell? ⟨g8, 0, none⟩ = some (.int .u64 (f2.1 : Int)) := Blk.cell (T := 42) (cs := #[.int .u64 (f2.1 : Int), .int .u64 (f2.2 : Int)]) (hS2.2.get (a := itBlk g8 42 #[.int .u64 (f2.1 : Int), .int .u64 (f2.2 : Int)]) (by simp)) 0; have m3 : w2.cell? ⟨g8, 1, none⟩ = some (.int .u64 (f2.2 : Int)) := Blk.cell (T := 42) (cs := #[.int .u64 (f2.1 : Int), .int .u64 (f2.2 : Int)]) (hS2.2.get (a := itBlk g8 42 #[.int .u64 (f2.1 : Int), .int .u64 (f2.2 : Int)]) (by simp)) 1; (first | (have bx : Blk w2 wc.heap.size 74 #[.bool false, .string ⟨#[]⟩, .string ⟨#[]⟩, .bool false, .string ⟨#[]⟩, .string ⟨#[]⟩] := Blk.below (Blk.new wc 74 #[.bool false, .string ⟨#[]⟩, .string ⟨#[]⟩, .bool false, .string ⟨#[]⟩, .string ⟨#[]⟩]) hb; have hgx : wc.heap.size ≤ wc.heap.size := hswc) | (have bx : Blk w2 wc.heap.size 74 #[.bool false, .string ⟨#[]⟩, .string ⟨#[]⟩, .bool false, .string ⟨#[]⟩, .string ⟨#[]⟩] := Blk.below (Blk.new wc.drew 74 #[.bool false, .string ⟨#[]⟩, .string ⟨#[]⟩, .bool false, .string ⟨#[]⟩, .string ⟨#[]⟩]) hb; have hgx : wc.heap.size ≤ wc.heap.size := hswc) | (have bx := Blk.below bx hb) | skip); replace hS2 := Lib.hid hS2; replace hB2 := Lib.hid hB2; clear hb hb0)
              | (go_at_call_of 72 (Value.int .u64 (f2.1 : Int)); (with_reducible refine (hT2.out _).mono ?_); rintro en w3 ⟨rfl, hb⟩; have hb0 : Below w2.heap.size w2 w3 := (by first | exact hb | exact (((Below.refl _ w2).drew).trans hb) | exact (((Below.refl _ w2).alloc (Nat.le_refl _) (.cells #[.bool false, .string ⟨#[]⟩, .string ⟨#[]⟩, .bool false, .string ⟨#[]⟩, .string ⟨#[]⟩] 74)).trans (hb.mono (by simp))) | exact ((((Below.refl _ w2).drew).alloc (Nat.le_refl _) (.cells #[.bool false, .string ⟨#[]⟩, .string ⟨#[]⟩, .bool false, .string ⟨#[]⟩, .string ⟨#[]⟩] 74)).trans (hb.mono (by simp)))); have hS3 := hS2.out.below hb0; have hB3 : Below wc.heap.size wc w3 := hB2.out.trans (hb0.mono hB2.out.size); have hsw3 : wc.heap.size ≤ w3.heap.size := hB3.size; have o0 : w3.cell? ⟨gE, k * 2, none⟩ = some (.int .u64 (f.1 : Int)) := (hCE.out w3 (hS3.2.get (a := itRow w.heap.size 42 2 (.slice (some ⟨gE, 0, none⟩) nE cE) nE (E.flatMap enc2)) (by simp))).1 0 _ rfl; have o1 : w3.cell? ⟨gE, k * 2 + 1, none⟩ = some (.int .u64 (f.2 : Int)) := (hCE.out w3 (hS3.2.get (a := itRow w.heap.size 42 2 (.slice (some ⟨gE, 0, none⟩) nE cE) nE (E.flatMap enc2)) (by simp))).1 1 _ rfl; have o2 : w3.cell? ⟨g8, 0, none⟩ = some (.int .u64 (f2.1 : Int)) := Blk.cell (T := 42) (cs := #[.int .u64 (f2.1 : Int), .int .u64 (f2.2 : Int)]) (hS3.2.get (a := itBlk g8 42 #[.int .u64 (f2.1 : Int), .int .u64 (f2.2 : Int)]) (by simp)) 0; have o3 : w3.cell? ⟨g8, 1, none⟩ = some (.int .u64 (f2.2 : Int)) := Blk.cell (T := 42) (cs := #[.int .u64 (f2.1 : Int), .int .u64 (f2.2 : Int)]) (hS3.2.get (a := itBlk g8 42 #[.int .u64 (f2.1 : Int), .int .u64 (f2.2 : Int)]) (by simp)) 1; (first | (have bx : Blk w3 w2.heap.size 74 #[.bool false, .string ⟨#[]⟩, .string ⟨#[]⟩, .bool false, .string ⟨#[]⟩, .string ⟨#[]⟩] := Blk.below (Blk.new w2 74 #[.bool false, .string ⟨#[]⟩, .string ⟨#[]⟩, .bool false, .string ⟨#[]⟩, .string ⟨#[]⟩]) hb; have hgx : wc.heap.size ≤ w2.heap.size := hsw2) | (have bx : Blk w3 w2.heap.size 74 #[.bool false, .string ⟨#[]⟩, .string ⟨#[]⟩, .bool false, .string ⟨#[]⟩, .string ⟨#[]⟩] := Blk.below (Blk.new w2.drew 74 #[.bool false, .string ⟨#[]⟩, .string ⟨#[]⟩, .bool false, .string ⟨#[]⟩, .string ⟨#[]⟩]) hb; have hgx : wc.heap.size ≤ w2.heap.size := hsw2) | (have bx := Blk.below bx hb) | skip); (first | (have y0 := bx.cell 0; have yf0 := bx.frozen 0; have y1 := bx.cell 1; have yf1 := bx.frozen 1; have y2 := bx.cell 2; have yf2 := bx.frozen 2; have y3 := bx.cell 3; have yf3 := bx.frozen 3; have y4 := bx.cell 4; have yf4 := bx.frozen 4; have y5 := bx.cell 5; have yf5 := bx.frozen 5) | skip); replace hS3 := Lib.hid hS3; replace hB3 := Lib.hid hB3; clear hb hb0))
          all_goals
            clear a0 a1 a2 a3 m0 m1 m2 m3 o0 o1 o2 o3 hT1 hT2
            go_wp2_with fail
            go_meet
            case rel =>
              have hBw := hB.out.trans (hB3.out.mono hB.out.size)
              first
                | (have hbx := bx; refine ⟨_, rfl, Lib.hid ?_, Lib.hid ?_⟩; (· exact nest_arcB hS.out hB3.out hbx hgx _ _ _ _ _ _); exact below_set6 hBw (by have := hB.out.size; omega) _ _ _ _ _ _)
                | (refine ⟨w3.heap.size, rfl, Lib.hid ?_, Lib.hid ?_⟩; (· exact nest_arcA hS3.out _); exact hBw.alloc hBw.size _)
        clear hT1 hT2 hS hB
        obtain ⟨g13, rfl, hS, hB⟩ := hcut
        have hKa : Blk wc g13 74 #[.bool false, .string (natS f.1), .string (natS f.2), .bool false, .string (natS f2.1), .string (natS f2.2)] := hS.out.2.get (a := itBlk g13 74 #[.bool false, .string (natS f.1), .string (natS f.2), .bool false, .string (natS f2.1), .string (natS f2.2)]) (by simp)
        have a0 : wc.cell? ⟨g13, 0, none⟩ = some (.bool false) := hKa.cell 0
        have a1 : wc.cell? ⟨g13, 1, none⟩ = some (.string (natS f.1)) := hKa.cell 1
        have a2 : wc.cell? ⟨g13, 2, none⟩ = some (.string (natS f.2)) := hKa.cell 2
        have a3 : wc.cell? ⟨g13, 3, none⟩ = some (.bool false) := hKa.cell 3
        have a4 : wc.cell? ⟨g13, 4, none⟩ = some (.string (natS f2.1)) := hKa.cell 4
        have a5 : wc.cell? ⟨g13, 5, none⟩ = some (.string (natS f2.2)) := hKa.cell 5
        have hBk : Blk wc g9 5 (ivs .u8 (sideN L f)).toArray := hS.out.2.get (a := itBlk g9 5 (ivs .u8 (sideN L f)).toArray) (by simp)
        have hcv := hcvN.out wc hBk
        have hvl : Hid (vs.length = ns) := Lib.hid (by rw [hS.out.1, ← hsl.out, hns.out])
        clear hKa hBk
        rcases hat.out with ⟨rfl, hnm⟩ | ⟨gi, hgi, rfl, hge⟩
        case inl =>
          obtain ⟨hs1, ho1⟩ := hNew.out hnm
          replace hs1 := Lib.hid hs1
          replace ho1 := Lib.hid ho1
          have hrow6 : wc.ownsRow w.heap.size 9 1 (.slice AS ns cS) ns (ss.map encS) := by have h := hS.out.2.get (a := itRow w.heap.size 9 1 (.slice AS ns cS) (ss).length ((ss).map encS)) (by simp); rw [← hns.out] at h; exact h
          replace hrow6 := Lib.hid hrow6
          have hBs := hB.out.size
          clear hnm hat hOld hNew
          go_upto_region 26 with (at_builtin; refine wpList_append_own_at _ rfl _ _ 172 rfl w.heap.size 9 i3 (.string ⟨#[]⟩) 1 16 Tryz.underlying172 ti tz0 tz1 tz2 rfl (by decide) _ _ _ rfl (hrow6.out.alloc _) ⟨wc.heap.size, 0, none⟩ 1 1 [.string ⟨sd.toArray⟩] rfl rfl (news_new wc 9 [.string ⟨sd.toArray⟩]) (fun u hu => by rw [List.mem_singleton.1 hu]; rfl) (by unfold maxLen; omega) (by omega) (by simp; omega) ?_; intro v7 wd hown1 hgrow1 _ hloc1)
          have hS1 : Hid (NestP wd w.heap.size 71 74 6 leafE [itRow w.heap.size 42 2 (.slice (some ⟨gE, 0, none⟩) nE cE) nE (E.flatMap enc2), itRow w.heap.size 9 1 v7 (ssK L (k + 1)).length ((ssK L (k + 1)).map encS), itBlk g8 42 #[.int .u64 (f2.1 : Int), .int .u64 (f2.2 : Int)], itBlk g9 5 (ivs .u8 (sideN L f)).toArray, itBlk g13 74 #[.bool false, .string (natS f.1), .string (natS f.2), .bool false, .string (natS f2.1), .string (natS f2.2)]] v5 vs out) := Lib.hid ((hS.out.alloc (.cells #[.string ⟨sd.toArray⟩] 9)).side (A := [itRow w.heap.size 42 2 (.slice (some ⟨gE, 0, none⟩) nE cE) nE (E.flatMap enc2)]) (C := [itBlk g8 42 #[.int .u64 (f2.1 : Int), .int .u64 (f2.2 : Int)], itBlk g9 5 (ivs .u8 (sideN L f)).toArray, itBlk g13 74 #[.bool false, .string (natS f.1), .string (natS f.2), .bool false, .string (natS f2.1), .string (natS f2.2)]]) (a := itRow w.heap.size 9 1 (.slice AS ns cS) (ss).length ((ss).map encS)) (a' := itRow w.heap.size 9 1 v7 (ssK L (k + 1)).length ((ssK L (k + 1)).map encS)) hgrow1 (by
            rw [hs1.out]
            show wd.ownsRow w.heap.size 9 1 v7 (ss ++ [sd]).length ((ss ++ [sd]).map encS)
            rw [List.length_append, List.map_append, ← hns.out]
            exact hown1) (fun q hq => by
            have hq : v7.ownBlock = some q := hq
            rcases hloc1 with h | h
            · exact .inl (h.symm.trans hq)
            · right; rw [h] at hq; injection hq with hq; exact Nat.le_of_eq hq))
          have hBd : Hid (Below w.heap.size w wd) := Lib.hid ((hB.out.alloc hB.out.size _).grown hgrow1 (by simp; omega) (fun q hq => (World.ownsRow.lt hrow6.out q hq).1))
          clear hgrow1 hown1 hloc1 hS hB hrow6 hBs a0 a1 a2 a3 a4 a5 hcv
          have hKa : Blk wd g13 74 #[.bool false, .string (natS f.1), .string (natS f.2), .bool false, .string (natS f2.1), .string (natS f2.2)] := hS1.out.2.get (a := itBlk g13 74 #[.bool false, .string (natS f.1), .string (natS f.2), .bool false, .string (natS f2.1), .string (natS f2.2)]) (by simp)
          have a0 : wd.cell? ⟨g13, 0, none⟩ = some (.bool false) := hKa.cell 0
          have a1 : wd.cell? ⟨g13, 1, none⟩ = some (.string (natS f.1)) := hKa.cell 1
          have a2 : wd.cell? ⟨g13, 2, none⟩ = some (.string (natS f.2)) := hKa.cell 2
          have a3 : wd.cell? ⟨g13, 3, none⟩ = some (.bool false) := hKa.cell 3
          have a4 : wd.cell? ⟨g13, 4, none⟩ = some (.string (natS f2.1)) := hKa.cell 4
          have a5 : wd.cell? ⟨g13, 5, none⟩ = some (.string (natS f2.2)) := hKa.cell 5
          obtain ⟨A5, c5, rfl, -, -⟩ := own_form hS1.out.row
          have hrow5 := Lib.hid hS1.out.row
          have hBs := hBd.out.size
          have hvn : Hid (vs.length ≤ 8192) := Lib.hid (by have := hvl.out; omega)
          have hnw : ∀ (j : Nat) (u : Value), [Value.slice (some ⟨wd.heap.size, 0, none⟩) 1 1][j]? = some u → ((wd.alloc (.cells #[.bool false, .string (natS f.1), .string (natS f.2), .bool false, .string (natS f2.1), .string (natS f2.2)] 74)).alloc (.cells #[.slice (some ⟨wd.heap.size, 0, none⟩) 1 1] 71)).cell? ((⟨wd.heap.size + 1, 0, none⟩ : Addr).add j) = some u := by
            have h := news_new (wd.alloc (.cells #[.bool false, .string (natS f.1), .string (natS f.2), .bool false, .string (natS f2.1), .string (natS f2.2)] 74)) 71 [.slice (some ⟨wd.heap.size, 0, none⟩) 1 1]
            rw [World.size_alloc] at h
            exact h
          replace hnw := Lib.hid hnw
          clear hKa
          go_wp2_with (at_builtin; refine wpList_append_own_at _ rfl _ _ 65 rfl w.heap.size 71 i2 (.slice none 0 0) 1 24 Tryz.underlying65 si sz0 sz1 sz2 rfl (by decide) _ _ _ rfl ((hrow5.out.alloc _).alloc _) ⟨wd.heap.size + 1, 0, none⟩ 1 1 [.slice (some ⟨wd.heap.size, 0, none⟩) 1 1] rfl rfl hnw.out (fun u hu => by rw [List.mem_singleton.1 hu]; rfl) (by have := hvn.out; unfold maxLen; omega) (by have := hvn.out; omega) (by simp; omega) ?_; intro v8 we hown2 hgrow2 _ hloc2)
          have hS2 : Hid (NestP we w.heap.size 71 74 6 leafE [itRow w.heap.size 42 2 (.slice (some ⟨gE, 0, none⟩) nE cE) nE (E.flatMap enc2), itRow w.heap.size 9 1 v7 (ssK L (k + 1)).length ((ssK L (k + 1)).map encS)] v8 (vs ++ [.slice (some ⟨wd.heap.size, 0, none⟩) 1 1]) (outK L (k + 1))) := Lib.hid (by
            have h1 := hS1.out.addNew (a := itRow w.heap.size 74 6 (.slice (some ⟨wd.heap.size, 0, none⟩) 1 1) [(f, f2)].length ([(f, f2)].flatMap leafE)) (World.grownBy_alloc wd (.cells #[.bool false, .string (natS f.1), .string (natS f.2), .bool false, .string (natS f2.1), .string (natS f2.2)] 74) none) (own_blk (Blk.new wd 74 #[.bool false, .string (natS f.1), .string (natS f.2), .bool false, .string (natS f2.1), .string (natS f2.2)]) rfl hBd.out.size (show 1 ≤ maxLen by unfold maxLen; omega)) (fun q hq => by injection hq with hq; exact Nat.le_of_eq hq)
            have h2 := (h1.alloc (.cells #[.slice (some ⟨wd.heap.size, 0, none⟩) 1 1] 71)).pushR hgrow2 hown2 hloc2
            rw [ho1.out]
            exact h2.drop (X := [itRow w.heap.size 42 2 (.slice (some ⟨gE, 0, none⟩) nE cE) nE (E.flatMap enc2), itRow w.heap.size 9 1 v7 (ssK L (k + 1)).length ((ssK L (k + 1)).map encS), itBlk g8 42 #[.int .u64 (f2.1 : Int), .int .u64 (f2.2 : Int)], itBlk g9 5 (ivs .u8 (sideN L f)).toArray]) |>.drop (X := [itRow w.heap.size 42 2 (.slice (some ⟨gE, 0, none⟩) nE cE) nE (E.flatMap enc2), itRow w.heap.size 9 1 v7 (ssK L (k + 1)).length ((ssK L (k + 1)).map encS), itBlk g8 42 #[.int .u64 (f2.1 : Int), .int .u64 (f2.2 : Int)]]) |>.drop (X := [itRow w.heap.size 42 2 (.slice (some ⟨gE, 0, none⟩) nE cE) nE (E.flatMap enc2), itRow w.heap.size 9 1 v7 (ssK L (k + 1)).length ((ssK L (k + 1)).map encS)]))
          have hBe : Hid (Below w.heap.size w we) := Lib.hid (((hBd.out.alloc hBd.out.size _).alloc (by simp; omega) _).grown hgrow2 (by simp; omega) (fun q hq => (World.ownsRow.lt hrow5.out q hq).1))
          clear hgrow2 hown2 hloc2 hS1 hBd hrow5
          go_roundg (nE - (k + 1))
          case measure => omega
          case rel => exact ⟨k + 1, _, _, _, rfl, rfl, by go_num, by omega, Nat.le_refl _, hS2, hBe⟩
        case inr =>
          obtain ⟨hs1, ho1⟩ := hOld.out gi (by rw [← hns.out]; exact hgi) hge
          replace hs1 := Lib.hid hs1
          replace ho1 := Lib.hid ho1
          have hgl : gi < vs.length := by have := hvl.out; omega
          obtain ⟨A5, c5, rfl, -, hA5⟩ := own_form hS.out.row
          obtain ⟨gb, rfl⟩ := hA5 (by omega)
          obtain ⟨u, hu⟩ : ∃ u, u = vs[gi] := ⟨_, rfl⟩
          obtain ⟨xI, hxI⟩ : ∃ u, u = out[gi]'(hS.out.1 ▸ hgl) := ⟨_, rfl⟩
          have oc : wc.cell? ⟨gb, gi, none⟩ = some u := by
            rw [World.ownsRow.cellAt hS.out.row gi (by omega), List.getElem?_eq_getElem hgl, hu]
          have ofz : wc.frozen? ⟨gb, gi, none⟩ = false := World.ownsRow.frozenAt hS.out.row gi
          have hin : wc.ownsRow w.heap.size 74 6 u xI.length (xI.flatMap leafE) := by rw [hu, hxI]; exact hS.out.inner hgl
          have hxl : xI.length ≤ k := hol.out xI (by rw [hxI]; exact List.getElem_mem _)
          replace hu := Lib.hid hu
          replace hxI := Lib.hid hxI
          replace hin := Lib.hid hin
          have hBs := hB.out.size
          have hglz : (gi : Int) < (vs.length : Int) := by have := hvl.out; omega
          have hgi0 : ¬ ((gi : Int) < 0) := by omega
          have hfar : Hid (some gb ≠ u.ownBlock) := Lib.hid (by rw [hu.out]; exact hS.out.far hgl)
          have ocH := Lib.hid oc
          have oc2 : (wc.alloc (.cells #[.bool false, .string (natS f.1), .string (natS f.2), .bool false, .string (natS f2.1), .string (natS f2.2)] 74)).cell? ⟨gb, gi, none⟩ = some u := Lib.cell?_alloc_some _ oc
          have ofH := Lib.hid ofz
          clear hA5 hat hNew hOld hcv hge
          go_upto_region 27 with fail
          go_region_law ((refine step_append_lies _ (by rfl) _ _ _ (by rfl) w.heap.size 74 i1 (.agg #[.bool false, .string ⟨#[]⟩, .string ⟨#[]⟩, .bool false, .string ⟨#[]⟩, .string ⟨#[]⟩]) 6 80 Tryz.underlying71 ji jz0 jz1 jz2 rfl (by omega) u xI.length (xI.flatMap leafE) (by rfl) (World.ownsRow.alloc (World.ownsRow.drew hin.out) _) ⟨wc.heap.size, 0, none⟩ 1 1 (leafE (f, f2)) (by rfl) rfl (news_new _ 74 (leafE (f, f2))) (leaf_one (f, f2)) (by omega) (by unfold maxLen; omega) (by omega) (by simp; omega) _ rfl ?_; intro ga ca w1 hown1 hgrow1 hat1 hlt1; obtain ⟨z1, z2⟩ := far_cell hgrow1 ocH.out ofH.out hfar.out; replace hown1 := Lib.hid hown1; replace hgrow1 := Lib.hid hgrow1; replace hat1 := Lib.hid hat1; clear hlt1))
          all_goals
            clear z1 z2 oc oc2 ofz a0 a1 a2 a3 a4 a5 hglz hgi0
            have hS3 := Lib.hid (((hS.out.drewN 1).alloc (.cells #[.bool false, .string (natS f.1), .string (natS f.2), .bool false, .string (natS f2.1), .string (natS f2.2)] 74)).set (u := .slice (some ⟨ga, 0, none⟩) (xI.length + 1) ca) (xs' := xI ++ [(f, f2)]) hgl (by rw [← hu.out]; exact hgrow1.out) (by
              rw [List.length_append, List.flatMap_append]
              have e : [(f, f2)].flatMap leafE = leafE (f, f2) := by simp
              rw [e]
              exact hown1.out) (by
              rw [← hu.out]
              rcases hat1.out with h | h
              · exact .inl h.symm
              · exact .inr ⟨ga, rfl, by rw [h]; exact Nat.le_refl _⟩) rfl)
            have hB3 : Hid (Below w.heap.size w (w1.setCell ⟨gb, gi, none⟩ (.slice (some ⟨ga, 0, none⟩) (xI.length + 1) ca))) := Lib.hid (((hB.out.drew.alloc hB.out.drew.size _).grown hgrow1.out (by simp; omega) (fun q hq => (World.ownsRow.lt hin.out q hq).1)).setCell (p := ⟨gb, gi, none⟩) (World.ownsRow.lt hS.out.row gb rfl).1 _)
            have hnext : Hid (outK L (k + 1) = out.set gi (xI ++ [(f, f2)])) := Lib.hid (by
              have hg2 : gi < out.length := by rw [← hS.out.1]; exact hgl
              rw [ho1.out, modify_set out gi _ hg2, hxI.out])
            clear hxI hu hS hB hgrow1 hat1 hown1 hin hfar ocH ofH
            go_wp2_with fail
            go_roundg (nE - (k + 1))
            case measure => omega
            case rel =>
              refine ⟨k + 1, _, _, vs.set gi (.slice (some ⟨ga, 0, none⟩) (xI.length + 1) ca), rfl, rfl, by go_num, by omega, Nat.le_refl _, Lib.hid ?_, hB3⟩
              rw [hnext.out, hs1.out]
              exact hS3.out.drop (X := [itRow w.heap.size 42 2 (.slice (some ⟨gE, 0, none⟩) nE cE) nE (E.flatMap enc2), itRow w.heap.size 9 1 (.slice AS ns cS) (ss).length ((ss).map encS), itBlk g8 42 #[.int .u64 (f2.1 : Int), .int .u64 (f2.2 : Int)], itBlk g9 5 (ivs .u8 (sideN L f)).toArray]) |>.drop (X := [itRow w.heap.size 42 2 (.slice (some ⟨gE, 0, none⟩) nE cE) nE (E.flatMap enc2), itRow w.heap.size 9 1 (.slice AS ns cS) (ss).length ((ss).map encS), itBlk g8 42 #[.int .u64 (f2.1 : Int), .int .u64 (f2.2 : Int)]]) |>.drop (X := [itRow w.heap.size 42 2 (.slice (some ⟨gE, 0, none⟩) nE cE) nE (E.flatMap enc2), itRow w.heap.size 9 1 (.slice AS ns cS) (ss).length ((ss).map encS)])
end Go.Proofs.YtoaggmegmgdgbaaGreat
