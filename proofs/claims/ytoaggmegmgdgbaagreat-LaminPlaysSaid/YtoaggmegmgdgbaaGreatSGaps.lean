import Derived.Test.YtoaggmegmgdgbaaGreatRGaps
namespace Go.Proofs.YtoaggmegmgdgbaaGreat
open Go.RowKit Go.Sort Go.Maps
section
variable {α : Type} {B B2 : Nat} {e oe : TypeId} {size : Nat} {enc : α → List Value} {us vs : List Value} {out out2 : List (List α)} {u v : Value} {w w' : World} {X : List It}
def nestIts (B : Nat) (oe e : TypeId) (size : Nat) (enc : α → List Value) (v : Value) (vs : List Value) (out : List (List α)) : List It := itRow B oe 1 v vs.length vs :: inIts B e size enc vs out
theorem nest_side_row (h : NestP w B oe e size enc (nestIts B2 oe e size enc v vs out2) u us out) : w.ownsRow B2 oe 1 v vs.length vs := h.2.get (a := itRow B2 oe 1 v vs.length vs) (by simp [nestIts])
theorem nest_side_inner (hl : vs.length = out2.length) (h : NestP w B oe e size enc (nestIts B2 oe e size enc v vs out2) u us out) {g : Nat} (hg : g < vs.length) : w.ownsRow B2 e size vs[g] (out2[g]'(hl ▸ hg)).length ((out2[g]'(hl ▸ hg)).flatMap enc) := by
  have := h.2.get (a := itRow B2 e size vs[g] (out2[g]'(hl ▸ hg)).length ((out2[g]'(hl ▸ hg)).flatMap enc)) (by
    rw [List.mem_append]
    left
    unfold nestIts
    rw [List.mem_cons]
    right
    rw [← inIts_get hl hg]
    exact List.getElem_mem _)
  exact this
theorem nestIts_lt (hl : vs.length = out.length) (h : Sep w (nestIts B oe e size enc v vs out)) : ∀ a, a ∈ nestIts B oe e size enc v vs out → ∀ k, a.own = some k → B ≤ k ∧ k < w.heap.size := fun a ha k hk => by
  have hP := h.1 a ha
  unfold nestIts at ha
  rcases List.mem_cons.1 ha with rfl | ha
  · exact World.ownsRow.lt (show w.ownsRow B oe 1 v vs.length vs from hP) k hk
  · obtain ⟨i, hi, rfl⟩ := List.mem_iff_getElem.1 ha
    have hi2 : i < vs.length := by rw [inIts_len hl] at hi; exact hi
    rw [inIts_get hl hi2] at hP hk
    exact World.ownsRow.lt (show w.ownsRow B e size vs[i] _ _ from hP) k hk
theorem nest_join (hu : NestP w B oe e size enc [] u us out) (hv : NestP w' B2 oe e size enc [] v vs out2) (hb : Below w.heap.size w w') (hB2 : w.heap.size ≤ B2) : NestP w' B oe e size enc (nestIts B2 oe e size enc v vs out2) u us out ∧ NestP w' B2 oe e size enc (nestIts B oe e size enc u us out) v vs out2 := by
  have hu2 : NestP w' B oe e size enc [] u us out := hu.below hb
  have h1 : Sep w (nestIts B oe e size enc u us out) := hu.2
  have h2 : Sep w' (nestIts B oe e size enc u us out) := hu2.2
  have h3 : Sep w' (nestIts B2 oe e size enc v vs out2) := hv.2
  have hf : ∀ a, a ∈ nestIts B oe e size enc u us out → ∀ b, b ∈ nestIts B2 oe e size enc v vs out2 → Far a b := fun a ha b hb k hk1 hk2 => by
    have h4 := (nestIts_lt hu.1 h1 a ha k hk1).2
    have h5 := (nestIts_lt hv.1 h3 b hb k hk2).1
    omega
  refine ⟨⟨hu.1, ?_, List.pairwise_append.2 ⟨h3.2, h2.2, fun a ha b hb => (hf b hb a ha).symm⟩⟩, ⟨hv.1, ?_, List.pairwise_append.2 ⟨h2.2, h3.2, fun a ha b hb => hf a ha b hb⟩⟩⟩
  · intro a ha
    rcases List.mem_append.1 ha with h | h
    · exact h3.1 a h
    · exact h2.1 a h
  · intro a ha
    rcases List.mem_append.1 ha with h | h
    · exact h2.1 a h
    · exact h3.1 a h
theorem NestP.cells {gb cap : Nat} {xs' : List α} (h : NestP w B oe e size enc X (.slice (some ⟨gb, 0, none⟩) vs.length cap) vs out) {g : Nat} (hgl : g < vs.length) (hg : w.grownBy w' vs[g].ownBlock) (hrow : w'.ownsRow B e size vs[g] xs'.length (xs'.flatMap enc)) : NestP w' B oe e size enc X (.slice (some ⟨gb, 0, none⟩) vs.length cap) vs (out.set g xs') := by
  obtain ⟨h1, h2⟩ := h
  have hl := inIts_len (B := B) (e := e) (size := size) (enc := enc) h1
  have hlt : g < (inIts B e size enc vs out).length := by rw [hl]; exact hgl
  have h3 := h2
  rw [list_split (inIts B e size enc vs out) hlt, inIts_get h1 hgl, show X ++ itRow B oe 1 (.slice (some ⟨gb, 0, none⟩) vs.length cap) vs.length vs :: ((inIts B e size enc vs out).take g ++ itRow B e size vs[g] (out[g]'(h1 ▸ hgl)).length ((out[g]'(h1 ▸ hgl)).flatMap enc) :: (inIts B e size enc vs out).drop (g + 1)) = (X ++ itRow B oe 1 (.slice (some ⟨gb, 0, none⟩) vs.length cap) vs.length vs :: (inIts B e size enc vs out).take g) ++ itRow B e size vs[g] (out[g]'(h1 ▸ hgl)).length ((out[g]'(h1 ▸ hgl)).flatMap enc) :: (inIts B e size enc vs out).drop (g + 1) by simp] at h3
  have h4 := h3.upd (a' := itRow B e size vs[g] xs'.length (xs'.flatMap enc)) hg hrow (fun k hk => .inl hk)
  have h5 := inIts_set (B := B) (e := e) (size := size) (enc := enc) h1 hgl vs[g] xs'
  rw [List.set_getElem_self] at h5
  refine ⟨by simp [h1], ?_⟩
  rw [h5]
  simpa using h4
end
theorem far_cell2 {w w1 : World} {o : Obj} {row : Option Nat} {a : Addr} {v : Value} (hg : (w.alloc o).grownBy w1 row) (h : w.cell? a = some v) (hf : w.frozen? a = false) (hne : some a.block ≠ row) : w1.cell? a = some v ∧ w1.frozen? a = false := by
  have hlt : a.block < w.heap.size := block_lt_of_cell h
  have hb : w1.heap[a.block]? = w.heap[a.block]? := (hg.block a.block (by simp; omega) hne).trans (Below.heap_alloc w o a.block hlt)
  have e1 : w1.cell? a = w.cell? a := by unfold World.cell?; rw [hb]
  have e2 : w1.frozen? a = w.frozen? a := by unfold World.frozen?; rw [hb]
  rw [e1, e2]
  exact ⟨h, hf⟩
def zA : Lf := ((0, 0), (0, 0))
def zrL (x : List Lf) (k : Nat) : List Lf := List.replicate k zA ++ x.drop k
theorem zrL_zero (x : List Lf) : zrL x 0 = x := by simp [zrL]
theorem zrL_len {x : List Lf} {k : Nat} (h : k ≤ x.length) : (zrL x k).length = x.length := by simp [zrL]; omega
theorem zrL_get {x : List Lf} {k : Nat} (h : k < x.length) : (zrL x k)[k]! = x[k]! := by
  rw [getElem!_pos (zrL x k) k (by rw [zrL_len (by omega)]; exact h), getElem!_pos x k h]
  unfold zrL
  rw [List.getElem_append_right (by simp)]
  simp
theorem zrL_set {x : List Lf} {k : Nat} (h : k < x.length) : (zrL x k).set k zA = zrL x (k + 1) := by
  unfold zrL
  rw [List.set_append, if_neg (by simp), List.length_replicate, Nat.sub_self, List.drop_eq_getElem_cons h, List.set_cons_zero, List.replicate_succ', List.append_assoc]
  rfl
theorem flat6_set (L : List Lf) (j : Nat) (a : Lf) (hj : j < L.length) : (L.set j a).flatMap leafE = ((((((L.flatMap leafE).set (j * 6) (.bool false)).set (j * 6 + 1) (.string (natS a.1.1))).set (j * 6 + 2) (.string (natS a.1.2))).set (j * 6 + 3) (.bool false)).set (j * 6 + 4) (.string (natS a.2.1))).set (j * 6 + 5) (.string (natS a.2.2)) := by
  induction L generalizing j with
  | nil => simp at hj
  | cons b r ih =>
    rcases j with _ | j
    · rfl
    · have hb : (leafE b).length = 6 := rfl
      have e := ih j (by simpa using hj)
      rw [List.set_cons_succ, List.flatMap_cons, List.flatMap_cons, e]
      have hs : ∀ (x : List Value) (q : Nat) (v : Value), leafE b ++ x.set q v = (leafE b ++ x).set (6 + q) v := fun x q v => by
        rw [List.set_append, if_neg (by rw [hb]; omega), hb, Nat.add_sub_cancel_left]
      simp only [hs]
      rw [show (j + 1) * 6 = 6 + j * 6 by omega]
      simp only [Nat.add_assoc]
theorem row_cell6 {w : World} {B g n cap : Nat} {T : TypeId} {x : List Lf} (h : w.ownsRow B T 6 (.slice (some ⟨g, 0, none⟩) n cap) n (x.flatMap leafE)) {i : Nat} (hi : i < x.length) (hn : n = x.length) : ∀ (j : Nat) (u : Value), (leafE x[i]!)[j]? = some u → w.cell? ⟨g, i * 6 + j, none⟩ = some u := fun j u hu => by
  subst hn
  have hj : j < 6 := (List.getElem?_eq_some_iff.1 hu).1
  have e := flatMap_get leafE 6 (fun _ => rfl) x i j hi hj
  rw [← getElem!_pos x i hi, hu] at e
  rw [World.ownsRow.cellAt h _ (by omega)]
  exact e
theorem row_put6 {w : World} {B g n cap : Nat} {T : TypeId} {x : List Lf} (h : w.ownsRow B T 6 (.slice (some ⟨g, 0, none⟩) n cap) n (x.flatMap leafE)) (k : Nat) (hk : k < x.length) (a : Lf) :
    (((((((w.setCell ⟨g, k * 6, none⟩ (.bool false)).setCell ⟨g, k * 6 + 1, none⟩ (.string (natS a.1.1))).setCell ⟨g, k * 6 + 2, none⟩ (.string (natS a.1.2))).setCell ⟨g, k * 6 + 3, none⟩ (.bool false)).setCell ⟨g, k * 6 + 4, none⟩ (.string (natS a.2.1))).setCell ⟨g, k * 6 + 5, none⟩ (.string (natS a.2.2)))).ownsRow B T 6 (.slice (some ⟨g, 0, none⟩) n cap) n ((x.set k a).flatMap leafE) := by
  rw [flat6_set x k a hk]
  exact (World.ownsRow.stored (World.ownsRow.stored (World.ownsRow.stored (World.ownsRow.stored (World.ownsRow.stored (World.ownsRow.stored h _ _).1 _ _).1 _ _).1 _ _).1 _ _).1 _ _).1
set_option maxRecDepth 100000 in
set_option maxHeartbeats 8000000 in
theorem lsameGaps_any (B B2 : Nat) (u v : Value) (us vs : List Value) (G : List (List Lf)) (w : World) (hu : NestP w B 71 74 6 leafE (nestIts B2 71 74 6 leafE v vs G) u us G) (hvl : vs.length = G.length) (hl : G.length ≤ 8192) (hx : ∀ x, x ∈ G → x.length ≤ 8192) (hBase : B ≤ w.heap.size) :
    Calls Tryz.prog 48 #[u, v] w (fun e w' => e = .returned (.bool true) ∧ Below B w w') := by
  obtain ⟨i1, ji, jz0, jz1, jz2⟩ := info_parts info_arcG
  obtain ⟨n, hn⟩ : ∃ n, n = G.length := ⟨_, rfl⟩
  have hul : us.length = n := by rw [hu.1, hn]
  have hvl2 : vs.length = n := by rw [hvl, hn]
  obtain ⟨Au, cu, rfl, -, hAu⟩ := own_form hu.row
  obtain ⟨Av, cv, rfl, -, hAv⟩ := own_form (nest_side_row hu)
  rw [hul] at hu hAu ⊢
  rw [hvl2] at hu hAv ⊢
  rw [← hn] at hl
  by_cases hz : n = 0
  case pos =>
    subst hz
    have hB := Lib.hid (Below.refl w.heap.size w)
    replace hn := Lib.hid hn
    clear hu hAu hAv hul hvl2 hvl hx
    go_enter Tryz.func48, Tryz.ntmps48
    go_wp2_with fail
    go_loopg [5] 0 (fun kx s5 wr => s5 = .int .i64 0 ∧ Hid (Below w.heap.size w wr))
    case atStart => exact ⟨rfl, hB⟩
    case round =>
      clear hB
      obtain ⟨rfl, hB⟩ := hrel
      go_wp2_with fail
      go_ret
      exact ⟨rfl, hB.out.mono hBase⟩
  case neg =>
    obtain ⟨gu, rfl⟩ := hAu (by omega)
    obtain ⟨gv, rfl⟩ := hAv (by omega)
    clear hAu hAv
    have hu0 : Hid (NestP w B 71 74 6 leafE (nestIts B2 71 74 6 leafE (.slice (some ⟨gv, 0, none⟩) n cv) vs G) (.slice (some ⟨gu, 0, none⟩) n cu) us G) := Lib.hid hu
    have hB := Lib.hid (Below.refl B w)
    have hVr : Hid (∀ (W : World) us' out', NestP W B 71 74 6 leafE (nestIts B2 71 74 6 leafE (.slice (some ⟨gv, 0, none⟩) n cv) vs G) (.slice (some ⟨gu, 0, none⟩) n cu) us' out' → (∀ i, i < n → W.cell? ⟨gv, i, none⟩ = some vs[i]!) ∧ ∀ i, i < n → W.ownsRow B2 74 6 vs[i]! G[i]!.length (G[i]!.flatMap leafE)) := Lib.hid (fun W us' out' h => by
      have h1 := nest_side_row h
      rw [hvl2] at h1
      refine ⟨fun i hi => ?_, fun i hi => ?_⟩
      · rw [World.ownsRow.cellAt h1 i (by omega), getElem!_pos vs i (by omega)]
        exact List.getElem?_eq_getElem (by omega)
      · have h2 := nest_side_inner hvl h (g := i) (by omega)
        rw [getElem!_pos vs i (by omega), getElem!_pos G i (by omega)]
        exact h2)
    have hxl : Hid (∀ i, i < n → G[i]!.length ≤ 8192) := Lib.hid (fun i hi => hx _ (by rw [getElem!_pos G i (by omega)]; exact List.getElem_mem (by omega)))
    have hBB := Lib.hid hBase
    replace hn := Lib.hid hn
    replace hul := Lib.hid hul
    clear hu hvl2 hvl hx hBase hz
    go_enter Tryz.func48, Tryz.ntmps48
    go_wp2_with fail
    go_loopg [5] n (fun kx s5 wr => ∃ (i : Nat) (us' : List Value) (out' : List (List Lf)), s5 = .int .i64 (i : Int) ∧ i ≤ n ∧ n - i ≤ kx ∧ Hid (NestP wr B 71 74 6 leafE (nestIts B2 71 74 6 leafE (.slice (some ⟨gv, 0, none⟩) n cv) vs G) (.slice (some ⟨gu, 0, none⟩) n cu) us' out') ∧ Hid (us'.length = n ∧ out'.length = n ∧ ∀ j, i ≤ j → j < n → out'[j]! = G[j]!) ∧ Hid (Below B w wr))
    case atStart => exact ⟨0, us, G, rfl, Nat.zero_le _, Nat.le_refl _, hu0, Lib.hid ⟨hul.out, hn.out.symm, fun _ _ _ => rfl⟩, hB⟩
    case round =>
      clear hB hu0
      obtain ⟨i, us', out', rfl, hin, hg, hS, I, hB⟩ := hrel
      by_cases hlt : i < n
      case neg =>
        obtain rfl : n = i := by omega
        go_wp2_with fail
        go_ret
        exact ⟨rfl, hB.out⟩
      case pos =>
        obtain ⟨x, hx⟩ : ∃ x, x = G[i]! := ⟨_, rfl⟩
        have hoi : Hid (out'[i]! = x) := Lib.hid (by rw [hx]; exact I.out.2.2 i (Nat.le_refl _) hlt)
        obtain ⟨ui, hui⟩ : ∃ u, u = us'[i]! := ⟨_, rfl⟩
        obtain ⟨vi, hvi⟩ : ∃ u, u = vs[i]! := ⟨_, rfl⟩
        have hin1 : Hid (wr.ownsRow B 74 6 ui x.length (x.flatMap leafE)) := Lib.hid (by
          have h := hS.out.inner (g := i) (by rw [I.out.1]; exact hlt)
          rw [← getElem!_pos us' i (by rw [I.out.1]; exact hlt), ← getElem!_pos out' i (by rw [I.out.2.1]; exact hlt), ← hui, hoi.out] at h
          exact h)
        have hVi : Hid (∀ (W : World) us' out', NestP W B 71 74 6 leafE (nestIts B2 71 74 6 leafE (.slice (some ⟨gv, 0, none⟩) n cv) vs G) (.slice (some ⟨gu, 0, none⟩) n cu) us' out' → W.cell? ⟨gv, i, none⟩ = some vi ∧ W.ownsRow B2 74 6 vi x.length (x.flatMap leafE)) := Lib.hid (fun W a b h => by
          have h2 := hVr.out W a b h
          rw [hvi, hx]
          exact ⟨h2.1 i hlt, h2.2 i hlt⟩)
        have hin2 : Hid (wr.ownsRow B2 74 6 vi x.length (x.flatMap leafE)) := Lib.hid (hVi.out wr us' out' hS.out).2
        obtain ⟨m, hm⟩ : ∃ m, m = x.length := ⟨_, rfl⟩
        have hm8 : m ≤ 8192 := by rw [hm, hx]; exact hxl.out i hlt
        rw [← hm] at hin1 hin2 hVi
        obtain ⟨Ai, ci, rfl, -, hAi⟩ := own_form hin1.out
        obtain ⟨Ci, di, rfl, -, hCi⟩ := own_form hin2.out
        have hUc : Hid (∀ (W : World) out'', NestP W B 71 74 6 leafE (nestIts B2 71 74 6 leafE (.slice (some ⟨gv, 0, none⟩) n cv) vs G) (.slice (some ⟨gu, 0, none⟩) n cu) us' out'' → W.cell? ⟨gu, i, none⟩ = some (.slice Ai m ci)) := Lib.hid (fun W b h => by
          have h1 := h.row
          rw [I.out.1] at h1
          rw [World.ownsRow.cellAt h1 i (by omega), List.getElem?_eq_getElem (by rw [I.out.1]; exact hlt), hui, getElem!_pos us' i (by rw [I.out.1]; exact hlt)])
        have c0 := hUc.out wr out' hS.out
        have c1 := (hVi.out wr us' out' hS.out).1
        have c0r : ∀ d os, (grow (redrawn wr d) os).cell? ⟨gu, i, none⟩ = some (.slice Ai m ci) := cell_regrown c0
        have c1r : ∀ d os, (grow (redrawn wr d) os).cell? ⟨gv, i, none⟩ = some (.slice Ci m di) := cell_regrown c1
        have hiz : (i : Int) < (n : Int) := by omega
        have hiz0 : (0 : Int) ≤ (i : Int) := by omega
        replace hx := Lib.hid hx
        replace hui := Lib.hid hui
        replace hvi := Lib.hid hvi
        replace hm := Lib.hid hm
        replace hAi := Lib.hid hAi
        replace hCi := Lib.hid hCi
        clear c0 c1
        go_upto_region 6 with fail
        refine wp_region_quiet_below (by kernel_rfl) (by kernel_rfl) ?_
        iterate 11 (quiet_step (fail))
        refine wpQuiet_nil ?_
        intro w3 hw'
        have hb : Below wr.heap.size wr w3 := by
          obtain ⟨p, rfl⟩ := hw'
          exact below_regrown wr p.d p.os
        have hS3 := Lib.hid (hS.out.below hb)
        have hB3 := Lib.hid (hB.out.trans (hb.mono (Nat.le_trans hBB.out hB.out.size)))
        clear hw' hb c0r c1r hS hB hin1 hin2
        go_upto_block 2 with fail
        go_cut [6] from 12 to 70 (fun s6 wx => s6 = .int .i64 (m : Int) ∧ Hid (NestP wx B 71 74 6 leafE (nestIts B2 71 74 6 leafE (.slice (some ⟨gv, 0, none⟩) n cv) vs G) (.slice (some ⟨gu, 0, none⟩) n cu) us' (out'.set i (zrL x m))) ∧ Hid (Below B w wx))
        case first =>
          have hS0 : Hid (NestP w3 B 71 74 6 leafE (nestIts B2 71 74 6 leafE (.slice (some ⟨gv, 0, none⟩) n cv) vs G) (.slice (some ⟨gu, 0, none⟩) n cu) us' (out'.set i (zrL x 0))) := Lib.hid (by
            have e : out'.set i (zrL x 0) = out' := by
              rw [zrL_zero, ← hoi.out, getElem!_pos out' i (by rw [I.out.2.1]; exact hlt), List.set_getElem_self]
            rw [e]
            exact hS3.out)
          go_wp2_with fail
          go_loopg [6] m (fun kx s6 wr => ∃ k : Nat, s6 = .int .i64 (k : Int) ∧ k ≤ m ∧ m - k ≤ kx ∧ Hid (NestP wr B 71 74 6 leafE (nestIts B2 71 74 6 leafE (.slice (some ⟨gv, 0, none⟩) n cv) vs G) (.slice (some ⟨gu, 0, none⟩) n cu) us' (out'.set i (zrL x k))) ∧ Hid (Below B w wr))
          case atStart => exact ⟨0, rfl, Nat.zero_le _, Nat.le_refl _, hS0, hB3⟩
          case round =>
            clear hS0 hB3 hS3
            obtain ⟨k, rfl, hkm, hgk2, hS, hB⟩ := hrel
            have c1 := (hVi.out wr us' _ hS.out).1
            by_cases hlk : k < m
            case neg =>
              obtain rfl : m = k := by omega
              go_wp2_with fail
              go_meet
              case rel => exact ⟨rfl, hS, hB⟩
            case pos =>
              obtain ⟨gi, hgi⟩ := hAi.out (by omega)
              subst hgi
              obtain ⟨gj, hgj⟩ := hCi.out (by omega)
              subst hgj
              have hkx : k < x.length := by rw [← hm.out]; exact hlk
              obtain ⟨a, ha⟩ : ∃ a, a = x[k]! := ⟨_, rfl⟩
              have hlen : (zrL x k).length = m := by rw [zrL_len (by omega), hm.out]
              have hr1 : wr.ownsRow B 74 6 (.slice (some ⟨gi, 0, none⟩) m ci) m ((zrL x k).flatMap leafE) := by
                have h := hS.out.inner (g := i) (by rw [I.out.1]; exact hlt)
                have e1 : us'[i]'(by rw [I.out.1]; exact hlt) = .slice (some ⟨gi, 0, none⟩) m ci := by rw [← getElem!_pos us' i (by rw [I.out.1]; exact hlt), ← hui.out]
                have e2 : (out'.set i (zrL x k))[i]'(by rw [List.length_set, I.out.2.1]; exact hlt) = zrL x k := List.getElem_set_self ..
                rw [e1] at h
                simp only [e2, hlen] at h
                exact h
              have hr2 := (hVi.out wr us' _ hS.out).2
              have hC1 := row_cell6 hr1 (i := k) (by rw [hlen]; exact hlk) hlen.symm
              rw [zrL_get hkx, ← ha] at hC1
              have hC2 := row_cell6 hr2 hkx hm.out
              rw [← ha] at hC2
              have c0 := hUc.out wr _ hS.out
              have c0r : ∀ d os, (grow (redrawn wr d) os).cell? ⟨gu, i, none⟩ = some (.slice (some ⟨gi, 0, none⟩) m ci) := cell_regrown c0
              have c1r : ∀ d os, (grow (redrawn wr d) os).cell? ⟨gv, i, none⟩ = some (.slice (some ⟨gj, 0, none⟩) m di) := cell_regrown c1
              have hkz : (k : Int) < (m : Int) := by omega
              replace ha := Lib.hid ha
              have p0 : ∀ d os, (grow (redrawn wr d) os).cell? ⟨gi, k * 6, none⟩ = some (.bool false) := cell_regrown (hC1 0 _ rfl)
              have q0 : ∀ d os, (grow (redrawn wr d) os).cell? ⟨gj, k * 6, none⟩ = some (.bool false) := cell_regrown (hC2 0 _ rfl)
              have p1 : ∀ d os, (grow (redrawn wr d) os).cell? ⟨gi, k * 6 + 1, none⟩ = some (.string (natS a.1.1)) := cell_regrown (hC1 1 _ rfl)
              have q1 : ∀ d os, (grow (redrawn wr d) os).cell? ⟨gj, k * 6 + 1, none⟩ = some (.string (natS a.1.1)) := cell_regrown (hC2 1 _ rfl)
              have p2 : ∀ d os, (grow (redrawn wr d) os).cell? ⟨gi, k * 6 + 2, none⟩ = some (.string (natS a.1.2)) := cell_regrown (hC1 2 _ rfl)
              have q2 : ∀ d os, (grow (redrawn wr d) os).cell? ⟨gj, k * 6 + 2, none⟩ = some (.string (natS a.1.2)) := cell_regrown (hC2 2 _ rfl)
              have p3 : ∀ d os, (grow (redrawn wr d) os).cell? ⟨gi, k * 6 + 3, none⟩ = some (.bool false) := cell_regrown (hC1 3 _ rfl)
              have q3 : ∀ d os, (grow (redrawn wr d) os).cell? ⟨gj, k * 6 + 3, none⟩ = some (.bool false) := cell_regrown (hC2 3 _ rfl)
              have p4 : ∀ d os, (grow (redrawn wr d) os).cell? ⟨gi, k * 6 + 4, none⟩ = some (.string (natS a.2.1)) := cell_regrown (hC1 4 _ rfl)
              have q4 : ∀ d os, (grow (redrawn wr d) os).cell? ⟨gj, k * 6 + 4, none⟩ = some (.string (natS a.2.1)) := cell_regrown (hC2 4 _ rfl)
              have p5 : ∀ d os, (grow (redrawn wr d) os).cell? ⟨gi, k * 6 + 5, none⟩ = some (.string (natS a.2.2)) := cell_regrown (hC1 5 _ rfl)
              have q5 : ∀ d os, (grow (redrawn wr d) os).cell? ⟨gj, k * 6 + 5, none⟩ = some (.string (natS a.2.2)) := cell_regrown (hC2 5 _ rfl)
              clear hC1 hC2 hr1 hr2 c0
              go_upto_region 11 with fail
              refine wp_region_quiet_below (by kernel_rfl) (by kernel_rfl) ?_
              iterate 15 (quiet_step (fail))
              refine wpQuiet_nil ?_
              intro w4 hw'
              have hb : Below wr.heap.size wr w4 := by
                obtain ⟨p, rfl⟩ := hw'
                exact below_regrown wr p.d p.os
              have hS4 := Lib.hid (hS.out.below hb)
              have hB4 := Lib.hid (hB.out.trans (hb.mono (Nat.le_trans hBB.out hB.out.size)))
              clear hw' hb c0r c1r c1 p0 q0 p1 q1 p2 q2 p3 q3 p4 q4 p5 q5 hS hB
              have c0 := hUc.out w4 _ hS4.out
              have hr1 : w4.ownsRow B 74 6 (.slice (some ⟨gi, 0, none⟩) m ci) m ((zrL x k).flatMap leafE) := by
                have h := hS4.out.inner (g := i) (by rw [I.out.1]; exact hlt)
                have e1 : us'[i]'(by rw [I.out.1]; exact hlt) = .slice (some ⟨gi, 0, none⟩) m ci := by rw [← getElem!_pos us' i (by rw [I.out.1]; exact hlt), ← hui.out]
                have e2 : (out'.set i (zrL x k))[i]'(by rw [List.length_set, I.out.2.1]; exact hlt) = zrL x k := List.getElem_set_self ..
                rw [e1] at h
                simp only [e2, hlen] at h
                exact h
              have hC1 := row_cell6 hr1 (i := k) (by rw [hlen]; exact hlk) hlen.symm
              rw [zrL_get hkx, ← ha.out] at hC1
              have p0 : w4.cell? ⟨gi, k * 6, none⟩ = some (.bool false) := hC1 0 _ rfl
              have f0 : w4.frozen? ⟨gi, k * 6, none⟩ = false := World.ownsRow.frozenAt hr1 _
              have p1 : w4.cell? ⟨gi, k * 6 + 1, none⟩ = some (.string (natS a.1.1)) := hC1 1 _ rfl
              have f1 : w4.frozen? ⟨gi, k * 6 + 1, none⟩ = false := World.ownsRow.frozenAt hr1 _
              have p2 : w4.cell? ⟨gi, k * 6 + 2, none⟩ = some (.string (natS a.1.2)) := hC1 2 _ rfl
              have f2 : w4.frozen? ⟨gi, k * 6 + 2, none⟩ = false := World.ownsRow.frozenAt hr1 _
              have p3 : w4.cell? ⟨gi, k * 6 + 3, none⟩ = some (.bool false) := hC1 3 _ rfl
              have f3 : w4.frozen? ⟨gi, k * 6 + 3, none⟩ = false := World.ownsRow.frozenAt hr1 _
              have p4 : w4.cell? ⟨gi, k * 6 + 4, none⟩ = some (.string (natS a.2.1)) := hC1 4 _ rfl
              have f4 : w4.frozen? ⟨gi, k * 6 + 4, none⟩ = false := World.ownsRow.frozenAt hr1 _
              have p5 : w4.cell? ⟨gi, k * 6 + 5, none⟩ = some (.string (natS a.2.2)) := hC1 5 _ rfl
              have f5 : w4.frozen? ⟨gi, k * 6 + 5, none⟩ = false := World.ownsRow.frozenAt hr1 _
              have hgiB : B ≤ gi := (World.ownsRow.lt hr1 gi rfl).1
              have hgb : Hid (w4.grownBy ((((((w4.setCell ⟨gi, k * 6, none⟩ (.bool false)).setCell ⟨gi, k * 6 + 1, none⟩ (.string ⟨#[]⟩)).setCell ⟨gi, k * 6 + 2, none⟩ (.string ⟨#[]⟩)).setCell ⟨gi, k * 6 + 3, none⟩ (.bool false)).setCell ⟨gi, k * 6 + 4, none⟩ (.string ⟨#[]⟩)).setCell ⟨gi, k * 6 + 5, none⟩ (.string ⟨#[]⟩)) (some gi)) := Lib.hid (gb_of_but (show But (fun q => q = gi) w4 ((((((w4.setCell ⟨gi, k * 6, none⟩ (.bool false)).setCell ⟨gi, k * 6 + 1, none⟩ (.string ⟨#[]⟩)).setCell ⟨gi, k * 6 + 2, none⟩ (.string ⟨#[]⟩)).setCell ⟨gi, k * 6 + 3, none⟩ (.bool false)).setCell ⟨gi, k * 6 + 4, none⟩ (.string ⟨#[]⟩)).setCell ⟨gi, k * 6 + 5, none⟩ (.string ⟨#[]⟩)) from (((((((But.refl (fun q => q = gi) w4).setCell (p := ⟨gi, k * 6, none⟩) (Or.inl (show gi = gi from rfl)) (.bool false)).setCell (p := ⟨gi, k * 6 + 1, none⟩) (Or.inl (show gi = gi from rfl)) (.string ⟨#[]⟩)).setCell (p := ⟨gi, k * 6 + 2, none⟩) (Or.inl (show gi = gi from rfl)) (.string ⟨#[]⟩)).setCell (p := ⟨gi, k * 6 + 3, none⟩) (Or.inl (show gi = gi from rfl)) (.bool false)).setCell (p := ⟨gi, k * 6 + 4, none⟩) (Or.inl (show gi = gi from rfl)) (.string ⟨#[]⟩)).setCell (p := ⟨gi, k * 6 + 5, none⟩) (Or.inl (show gi = gi from rfl)) (.string ⟨#[]⟩))))
              have hrw := row_put6 hr1 k (by rw [hlen]; exact hlk) zA
              rw [zrL_set hkx] at hrw
              replace hrw : Hid ((((((((w4.setCell ⟨gi, k * 6, none⟩ (.bool false)).setCell ⟨gi, k * 6 + 1, none⟩ (.string ⟨#[]⟩)).setCell ⟨gi, k * 6 + 2, none⟩ (.string ⟨#[]⟩)).setCell ⟨gi, k * 6 + 3, none⟩ (.bool false)).setCell ⟨gi, k * 6 + 4, none⟩ (.string ⟨#[]⟩)).setCell ⟨gi, k * 6 + 5, none⟩ (.string ⟨#[]⟩))).ownsRow B 74 6 (.slice (some ⟨gi, 0, none⟩) m ci) m ((zrL x (k + 1)).flatMap leafE)) := Lib.hid hrw
              have hS5 : Hid (NestP ((((((w4.setCell ⟨gi, k * 6, none⟩ (.bool false)).setCell ⟨gi, k * 6 + 1, none⟩ (.string ⟨#[]⟩)).setCell ⟨gi, k * 6 + 2, none⟩ (.string ⟨#[]⟩)).setCell ⟨gi, k * 6 + 3, none⟩ (.bool false)).setCell ⟨gi, k * 6 + 4, none⟩ (.string ⟨#[]⟩)).setCell ⟨gi, k * 6 + 5, none⟩ (.string ⟨#[]⟩)) B 71 74 6 leafE (nestIts B2 71 74 6 leafE (.slice (some ⟨gv, 0, none⟩) n cv) vs G) (.slice (some ⟨gu, 0, none⟩) n cu) us' (out'.set i (zrL x (k + 1)))) := Lib.hid (by
                have hgl : i < us'.length := by rw [I.out.1]; exact hlt
                have e1 : us'[i]'hgl = .slice (some ⟨gi, 0, none⟩) m ci := by rw [← getElem!_pos us' i hgl, ← hui.out]
                have h := hS4.out
                rw [show (Value.slice (some ⟨gu, 0, none⟩) n cu) = .slice (some ⟨gu, 0, none⟩) us'.length cu by rw [I.out.1]] at h ⊢
                have h2 := h.cells (w' := ((((((w4.setCell ⟨gi, k * 6, none⟩ (.bool false)).setCell ⟨gi, k * 6 + 1, none⟩ (.string ⟨#[]⟩)).setCell ⟨gi, k * 6 + 2, none⟩ (.string ⟨#[]⟩)).setCell ⟨gi, k * 6 + 3, none⟩ (.bool false)).setCell ⟨gi, k * 6 + 4, none⟩ (.string ⟨#[]⟩)).setCell ⟨gi, k * 6 + 5, none⟩ (.string ⟨#[]⟩))) (xs' := zrL x (k + 1)) hgl (by rw [e1]; exact hgb.out) (by rw [e1, zrL_len (by omega), ← hm.out]; exact hrw.out)
                rw [List.set_set] at h2
                exact h2)
              have hB5 : Hid (Below B w ((((((w4.setCell ⟨gi, k * 6, none⟩ (.bool false)).setCell ⟨gi, k * 6 + 1, none⟩ (.string ⟨#[]⟩)).setCell ⟨gi, k * 6 + 2, none⟩ (.string ⟨#[]⟩)).setCell ⟨gi, k * 6 + 3, none⟩ (.bool false)).setCell ⟨gi, k * 6 + 4, none⟩ (.string ⟨#[]⟩)).setCell ⟨gi, k * 6 + 5, none⟩ (.string ⟨#[]⟩))) := Lib.hid ((((((hB4.out.setCell (p := ⟨gi, k * 6, none⟩) hgiB (.bool false)).setCell (p := ⟨gi, k * 6 + 1, none⟩) hgiB (.string ⟨#[]⟩)).setCell (p := ⟨gi, k * 6 + 2, none⟩) hgiB (.string ⟨#[]⟩)).setCell (p := ⟨gi, k * 6 + 3, none⟩) hgiB (.bool false)).setCell (p := ⟨gi, k * 6 + 4, none⟩) hgiB (.string ⟨#[]⟩)).setCell (p := ⟨gi, k * 6 + 5, none⟩) hgiB (.string ⟨#[]⟩))
              clear hgb hrw hr1 hC1 hS4 hB4 hlen
              go_wp2_with fail
              go_roundg (m - (k + 1))
              case measure => omega
              case rel => exact ⟨k + 1, by go_num, by omega, Nat.le_refl _, hS5, hB5⟩
        clear hS3 hB3
        obtain ⟨rfl, hS, hB⟩ := hcut
        have hgl : i < us'.length := by rw [I.out.1]; exact hlt
        have e1 : us'[i]'hgl = .slice Ai m ci := by rw [← getElem!_pos us' i hgl, ← hui.out]
        have hin : Hid (wc.ownsRow B 74 6 (.slice Ai m ci) m ((zrL x m).flatMap leafE)) := Lib.hid (by
          have h := hS.out.inner (g := i) hgl
          have e2 : (out'.set i (zrL x m))[i]'(by rw [List.length_set, I.out.2.1]; exact hlt) = zrL x m := List.getElem_set_self ..
          rw [e1] at h
          simp only [e2] at h
          rw [zrL_len (by rw [hm.out]; exact Nat.le_refl _), ← hm.out] at h
          exact h)
        have hfar : Hid (some gu ≠ (Value.slice Ai m ci).ownBlock) := Lib.hid (by
          have h := hS.out
          rw [show (Value.slice (some ⟨gu, 0, none⟩) n cu) = .slice (some ⟨gu, 0, none⟩) us'.length cu by rw [I.out.1]] at h
          have h2 := h.far hgl
          rw [e1] at h2
          exact h2)
        have oc : wc.cell? ⟨gu, i, none⟩ = some (.slice Ai m ci) := hUc.out wc _ hS.out
        have ofz : wc.frozen? ⟨gu, i, none⟩ = false := World.ownsRow.frozenAt (n := n) (by have h := hS.out.row; rw [I.out.1] at h; exact h) i
        have ocH := Lib.hid oc
        have ofH := Lib.hid ofz
        have hBs := hB.out.size
        have hBs2 := hBB.out
        have oc2 : (wc.alloc (.cells #[.bool false, .string ⟨#[]⟩, .string ⟨#[]⟩, .bool false, .string ⟨#[]⟩, .string ⟨#[]⟩, .bool false, .string ⟨#[]⟩, .string ⟨#[]⟩, .bool false, .string ⟨#[]⟩, .string ⟨#[]⟩] 74)).cell? ⟨gu, i, none⟩ = some (.slice Ai m ci) := Lib.cell?_alloc_some _ oc
        replace e1 := Lib.hid e1
        go_upto_region 14 with fail
        go_wp2_with (at_builtin; refine wpList_append_own_at _ rfl _ _ 71 rfl B 74 i1 (.agg #[.bool false, .string ⟨#[]⟩, .string ⟨#[]⟩, .bool false, .string ⟨#[]⟩, .string ⟨#[]⟩]) 6 80 Tryz.underlying71 ji jz0 jz1 jz2 rfl (by decide) _ _ _ rfl (hin.out.alloc _) ⟨wc.heap.size, 0, none⟩ 2 2 [.bool false, .string ⟨#[]⟩, .string ⟨#[]⟩, .bool false, .string ⟨#[]⟩, .string ⟨#[]⟩, .bool false, .string ⟨#[]⟩, .string ⟨#[]⟩, .bool false, .string ⟨#[]⟩, .string ⟨#[]⟩] rfl rfl (news_new wc 74 [.bool false, .string ⟨#[]⟩, .string ⟨#[]⟩, .bool false, .string ⟨#[]⟩, .string ⟨#[]⟩, .bool false, .string ⟨#[]⟩, .string ⟨#[]⟩, .bool false, .string ⟨#[]⟩, .string ⟨#[]⟩]) (fun u hu => by simp only [List.mem_cons, List.not_mem_nil, or_false] at hu; rcases hu with rfl | rfl | rfl | rfl | rfl | rfl | rfl | rfl | rfl | rfl | rfl | rfl <;> rfl) (by unfold maxLen; omega) (by omega) (by simp; omega) ?_; intro v8 w8 hown8 hgrow8 _ hloc8; obtain ⟨A8, c8, hv8, -, -⟩ := own_form hown8; subst hv8; obtain ⟨z1, z2⟩ := far_cell2 hgrow8 ocH.out ofH.out hfar.out; replace hown8 := Lib.hid hown8; replace hgrow8 := Lib.hid hgrow8; replace hloc8 := Lib.hid hloc8)
        clear z1 z2 oc oc2 ofz
        have hS9 : Hid (NestP (w8.setCell ⟨gu, i, none⟩ (.slice A8 (m + 2) c8)) B 71 74 6 leafE (nestIts B2 71 74 6 leafE (.slice (some ⟨gv, 0, none⟩) n cv) vs G) (.slice (some ⟨gu, 0, none⟩) n cu) (us'.set i (.slice A8 (m + 2) c8)) ((out'.set i (zrL x m)).set i (zrL x m ++ [zA, zA]))) := Lib.hid (by
          have h := hS.out
          rw [show (Value.slice (some ⟨gu, 0, none⟩) n cu) = .slice (some ⟨gu, 0, none⟩) us'.length cu by rw [I.out.1]] at h ⊢
          refine (h.alloc (.cells #[.bool false, .string ⟨#[]⟩, .string ⟨#[]⟩, .bool false, .string ⟨#[]⟩, .string ⟨#[]⟩, .bool false, .string ⟨#[]⟩, .string ⟨#[]⟩, .bool false, .string ⟨#[]⟩, .string ⟨#[]⟩] 74)).set (u := .slice A8 (m + 2) c8) (xs' := zrL x m ++ [zA, zA]) hgl (by rw [e1.out]; exact hgrow8.out) (by
            rw [List.length_append, List.flatMap_append, zrL_len (by rw [hm.out]; exact Nat.le_refl _), ← hm.out]
            exact hown8.out) (by
            rw [e1.out]
            rcases hloc8.out with h | h
            · exact .inl h
            · exact .inr ⟨_, h, Nat.le_refl _⟩) rfl)
        have hB9 : Hid (Below B w (w8.setCell ⟨gu, i, none⟩ (.slice A8 (m + 2) c8))) := Lib.hid (((hB.out.alloc (by omega) _).grown hgrow8.out (by simp; omega) (fun q hq => (World.ownsRow.lt hin.out q hq).1)).setCell (p := ⟨gu, i, none⟩) (World.ownsRow.lt hS.out.row gu rfl).1 _)
        have hI9 : Hid ((us'.set i (.slice A8 (m + 2) c8)).length = n ∧ ((out'.set i (zrL x m)).set i (zrL x m ++ [zA, zA])).length = n ∧ ∀ j, i + 1 ≤ j → j < n → ((out'.set i (zrL x m)).set i (zrL x m ++ [zA, zA]))[j]! = G[j]!) := Lib.hid (by
          refine ⟨by rw [List.length_set]; exact I.out.1, by rw [List.length_set, List.length_set]; exact I.out.2.1, fun j h1 h2 => ?_⟩
          have h3 := I.out.2.2 j (by omega) h2
          rw [List.set_set, getElem!_pos _ j (by rw [List.length_set, I.out.2.1]; exact h2), List.getElem_set_ne (by omega), ← getElem!_pos out' j (by rw [I.out.2.1]; exact h2)]
          exact h3)
        clear hS hB hown8 hgrow8 hloc8 hin hfar ocH ofH I hoi hUc hVi
        go_wp2_with fail
        go_roundg (n - (i + 1))
        case measure => omega
        case rel => exact ⟨i + 1, _, _, by go_num, by omega, Nat.le_refl _, hS9, hI9, hB9⟩
end Go.Proofs.YtoaggmegmgdgbaaGreat
