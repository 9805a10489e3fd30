import Derived.Test.YtoaggmegmgdgbaaGreatLamH
import Derived.Lib.AppendZerosOnto
import Derived.Lib.AppendZeros
import Derived.Lib.Overlaps
import Derived.Laws.Externs
import Derived.Laws.IdiomCopy
import Derived.Laws.NewBlocks
import Derived.Test.YtoaggmegmgdgbaaGreatLamK
import Derived.Test.YtoaggmegmgdgbaaGreatOnceJ
import Derived.Shelf.RegionOpenPlain
import Derived.Shelf.Spec.SlicesInsert
import Derived.Deep.RegionLaw
namespace Go.Proofs.YtoaggmegmgdgbaaGreat
open Go.RowKit Go.Sort
section
variable {P : Program}
theorem run_copyK (w : World) (dT sT ty elem : TypeId) (b o dLen dCap : Nat) (a : Addr) (sLen sCap k n : Nat) (cs : List Value)
    (hu : P.underlying dT = some (.slice elem)) (hs : (P.info? elem).map (·.size) = some k) (hn : Nat.min sLen dLen = n) (hl : cs.length = n * k)
    (hsrc : ∀ j v, cs[j]? = some v → w.cell? (a.add j) = some v) (hc : ∀ j, j < cs.length → (w.cell? ⟨b, o + j, none⟩).isSome = true) (hf : ∀ j, j < cs.length → w.frozen? ⟨b, o + j, none⟩ = false) (h1 : ∀ v ∈ cs, v.oneCell' = true) :
    (Builtin.copy_ #[dT, sT] ty #[.slice (some ⟨b, o, none⟩) dLen dCap, .slice (some a) sLen sCap]).run P w = .ok (goInt n) (w.setCells b o cs) := by
  have hld := run_loadCells_list (P := P) w a cs hsrc
  have hst := run_storeCells_cells (P := P) b o cs 0 w (by simpa using hc) (by simpa using hf) h1
  cases hq : P.info? elem with
  | none => simp [hq] at hs
  | some i =>
    have hi : i.size = k := by simpa [hq] using hs
    simp [Builtin.copy_, run_underlying hu, Builtin.lenOf, Builtin.firstCells, sizeOf, typeInfo, hq, hi, hn, ← hl, hld, hst]
end
def writeA (cur : Array Value) : Nat → List Value → Array Value
  | _, [] => cur
  | o, v :: r => writeA (cur.setIfInBounds o v) (o + 1) r
theorem writeA_size : ∀ (vs : List Value) (cur : Array Value) (o : Nat), (writeA cur o vs).size = cur.size
  | [], _, _ => rfl
  | v :: r, cur, o => by rw [writeA, writeA_size r]; simp
theorem writeA_get : ∀ (vs : List Value) (cur : Array Value) (o t : Nat), o + vs.length ≤ cur.size → (writeA cur o vs)[t]? = if o ≤ t ∧ t < o + vs.length then vs[t - o]? else cur[t]?
  | [], cur, o, t, _ => by rw [writeA, if_neg (by simp only [List.length_nil]; omega)]
  | v :: r, cur, o, t, h => by
    have hl : o + (r.length + 1) ≤ cur.size := by simpa using h
    rw [writeA, writeA_get r _ (o + 1) t (by simp; omega)]
    simp only [List.length_cons]
    by_cases e : t = o
    · subst e
      rw [if_neg (by omega), if_pos (by omega), Nat.sub_self, Array.getElem?_setIfInBounds, if_pos rfl, if_pos (by omega)]
      rfl
    · by_cases c : o + 1 ≤ t ∧ t < o + 1 + r.length
      · rw [if_pos c, if_pos (by omega)]
        obtain ⟨q, rfl⟩ : ∃ q, t = o + 1 + q := ⟨t - (o + 1), by omega⟩
        rw [show o + 1 + q - (o + 1) = q by omega, show o + 1 + q - o = q + 1 by omega]
        simp
      · rw [if_neg c, if_neg (by omega), Array.getElem?_setIfInBounds, if_neg (fun h => e h.symm)]
theorem setCells_heap {g : Nat} {T : TypeId} : ∀ (vs : List Value) (o : Nat) (w : World) (cur : Array Value), w.heap[g]? = some (.cells cur T (0, 0)) → (w.setCells g o vs).heap[g]? = some (.cells (writeA cur o vs) T (0, 0))
  | [], _, _, _, h => h
  | v :: r, o, w, cur, h => setCells_heap r (o + 1) _ _ (heap_setCell_same w g o cur T v h)
theorem setCells_gb {g : Nat} (vs : List Value) (o : Nat) (w : World) : w.grownBy (w.setCells g o vs) (some g) := by
  induction vs generalizing o w with
  | nil => exact ⟨rfl, rfl, rfl, Nat.le_refl _, fun _ _ _ => rfl⟩
  | cons v r ih =>
    have h1 : w.grownBy (w.setCell ⟨g, o, none⟩ v) (some g) := ⟨rfl, rfl, rfl, by simp [World.setCell], fun k _ hk => heap_setCell_other w ⟨g, o, none⟩ k v (fun e => hk (by simp [e]))⟩
    exact h1.trans (ih (o + 1) _)
open Go.RowKit Go.Sort
theorem flatL_len (L : List Lf) : (flatL L).length = L.length * 6 := by
  unfold flatL
  exact flatMap_len leafE 6 (fun _ => rfl) L
theorem flatL_drop (L : List Lf) (i : Nat) : flatL (L.drop i) = (flatL L).drop (i * 6) := by
  induction i generalizing L with
  | zero => simp
  | succ i ih =>
    cases L with
    | nil => simp [flatL]
    | cons a r =>
      have e : flatL (a :: r) = leafE a ++ flatL r := rfl
      rw [List.drop_succ_cons, ih, e, Nat.succ_mul, Nat.add_comm, ← List.drop_drop]
      have e2 : (leafE a ++ flatL r).drop 6 = flatL r := by rw [show (6 : Nat) = (leafE a).length from rfl, List.drop_left]
      rw [e2]
theorem flatL_take (L : List Lf) (i : Nat) : flatL (L.take i) = (flatL L).take (i * 6) := by
  unfold flatL
  exact (flatMap_take leafE 6 (fun _ => rfl) L i).symm
theorem flatL_append (L M : List Lf) : flatL (L ++ M) = flatL L ++ flatL M := by simp [flatL]
theorem flatL_one (L : List Lf) : ∀ u ∈ flatL L, u.oneCell' = true := fun u hu => by
  obtain ⟨l, -, hl⟩ := List.mem_flatMap.1 hu
  exact leaf_one l u hl
theorem putL_flat (L : List Lf) (l : Lf) (K : Nat) : flatL (putL L l K) = (flatL L).take (K * 6) ++ leafE l ++ (flatL L).drop (K * 6) := by
  unfold putL
  rw [flatL_append, flatL_append, flatL_take, flatL_drop]
  congr 2
theorem putL_len (L : List Lf) (l : Lf) (K : Nat) (h : K ≤ L.length) : (putL L l K).length = L.length + 1 := by
  unfold putL
  simp
  omega
theorem info_leafsz : (Tryz.prog.info? 38).map (·.size) = some 6 := by kernel_rfl
set_option maxRecDepth 100000 in
set_option maxHeartbeats 4000000 in
theorem lInsert_room (g cap n K : Nat) (cur : Array Value) (L : List Lf) (l : Lf) (vb : Nat) (w : World) (hg : w.heap[g]? = some (.cells cur 38 (0, 0))) (hn : n = L.length) (hroom : n + 1 ≤ cap) (hm : cap ≤ 9223372036854775807) (hcs : cur.size = cap * 6) (htk : cur.toList.take (n * 6) = flatL L) (hvb : Blk w vb 38 (leafE l).toArray) (hne : vb ≠ g) (hK : K < n) :
    Calls Tryz.prog 94 #[.slice (some ⟨g, 0, none⟩) n cap, .int .i64 (K : Int), .slice (some ⟨vb, 0, none⟩) 1 1] w fun e w' => e = .returned (.slice (some ⟨g, 0, none⟩) (n + 1) cap) ∧ w' = (w.drew.setCells g ((K + 1) * 6) ((flatL L).drop (K * 6))).setCells g (K * 6) (leafE l) := by
  have hfl : (flatL L).length = n * 6 := by rw [flatL_len, hn]
  have hcell : ∀ j, j < cap * 6 → (w.cell? ⟨g, j, none⟩).isSome = true := fun j hj => by
    rw [cell_of_row w g j cur _ (0, 0) hg, Array.getElem?_eq_getElem (by rw [hcs]; exact hj)]; rfl
  have hfz : ∀ j, w.frozen? ⟨g, j, none⟩ = false := fun j => frozen_of_row w g j cur _ hg
  have hsrc : ∀ j v, (flatL L)[j]? = some v → w.cell? ⟨g, j, none⟩ = some v := fun j v h => by
    rw [cell_of_row w g j cur _ (0, 0) hg, ← Array.getElem?_toList]
    rw [← htk, List.getElem?_take] at h
    split at h
    · exact h
    · cases h
  have hvs : ∀ j v, (leafE l)[j]? = some v → w.cell? ⟨vb, j, none⟩ = some v := fun j v h => by
    rw [hvb.cell j]; simpa using h
  have hsa : w.shape? vb = some (38, 6) := by simp [World.shape?, show w.heap[vb]? = _ from hvb, leafE]
  have hsb : w.shape? g = some (38, cap * 6) := by simp [World.shape?, hg, hcs]
  have hov : ∀ lb cb, (callFunc 139 #[.slice (some ⟨vb, 0, none⟩) 1 1, .slice (some ⟨g, (K + 1) * 6, none⟩) lb cb]).run Tryz.prog w = .ok (.value (.bool false)) w := fun lb cb => by
    rw [run_callFunc_extern Tryz.func139 (by kernel_rfl) (by kernel_rfl) (by kernel_rfl) (e := Extern.SlicesOverlaps.overlaps #[27, 27] #[4]) (by kernel_rfl),
      Lib.run_overlaps_apart w 27 4 38 Tryz.underlying27 6 Tryz.sizeOf38 ⟨vb, 0, none⟩ ⟨g, (K + 1) * 6, none⟩ 1 1 lb cb hne 38 38 6 (cap * 6) hsa hsb (by omega) (hvb.frozen 0) (hvb.frozen 6)]
    rfl
  have hdl : ((flatL L).drop (K * 6)).length = (n - K) * 6 := by rw [List.length_drop, hfl]; omega
  have hcp1 : ∀ ty dc sc, (Builtin.copy_ #[27, 27] ty #[.slice (some ⟨g, (K + 1) * 6, none⟩) (n - K) dc, .slice (some ⟨g, K * 6, none⟩) (n + 1 - K) sc]).run Tryz.prog w.drew = .ok (goInt (n - K : Nat)) (w.drew.setCells g ((K + 1) * 6) ((flatL L).drop (K * 6))) := fun ty dc sc =>
    run_copyK w.drew _ _ ty 38 g ((K + 1) * 6) (n - K) dc ⟨g, K * 6, none⟩ (n + 1 - K) sc 6 (n - K) ((flatL L).drop (K * 6)) Tryz.underlying27 info_leafsz (by simp only [Nat.min_def]; split <;> omega) hdl
      (fun j v hj => by rw [Addr.add_lit]; exact hsrc (K * 6 + j) v (by rwa [List.getElem?_drop] at hj))
      (fun j hj => hcell _ (by omega)) (fun j hj => hfz _) (fun v hv => flatL_one L v (List.mem_of_mem_drop hv))
  obtain ⟨W1, hW1⟩ : ∃ W1, W1 = w.drew.setCells g ((K + 1) * 6) ((flatL L).drop (K * 6)) := ⟨_, rfl⟩
  have h1 : W1.heap[g]? = some (.cells (writeA cur ((K + 1) * 6) ((flatL L).drop (K * 6))) 38 (0, 0)) := by rw [hW1]; exact setCells_heap _ _ _ _ hg
  have hcp2 : ∀ (W : World), (∀ x, W.cell? x = W1.cell? x) → (∀ x, W.frozen? x = W1.frozen? x) → ∀ ty dc, (Builtin.copy_ #[27, 27] ty #[.slice (some ⟨g, K * 6, none⟩) (n + 1 - K) dc, .slice (some ⟨vb, 0, none⟩) 1 1]).run Tryz.prog W = .ok (goInt (1 : Nat)) (W.setCells g (K * 6) (leafE l)) := fun W hWc hWf ty dc =>
    run_copyK W _ _ ty 38 g (K * 6) (n + 1 - K) dc ⟨vb, 0, none⟩ 1 1 6 1 (leafE l) Tryz.underlying27 info_leafsz (by simp only [Nat.min_def]; split <;> omega) rfl
      (fun j v hj => by
        rw [Addr.add_lit, hWc, hW1, World.cell?_setCells_out g _ _ _ _ (fun h _ => absurd h hne), Nat.zero_add]
        exact hvs j v hj)
      (fun j hj => by
        have hj6 : j < 6 := hj
        rw [hWc, cell_of_row W1 g _ _ _ (0, 0) h1, Array.getElem?_eq_getElem (by rw [writeA_size, hcs]; omega)]; rfl)
      (fun j hj => by rw [hWf]; exact frozen_of_row W1 g _ _ _ h1) (leaf_one l)
  rw [← hW1] at hcp1 ⊢
  have hc2 : ¬ ((K : Int) = (n : Int)) := by omega
  have hc3 : ¬ ((cap : Int) < (n : Int) + 1) := by omega
  have hw1 : IntKind.i64.wrap ((K : Int) + 1) = (K : Int) + 1 := by rw [IntKind.wrap_i64]; omega
  have hb1 : (0 : Int) ≤ (K : Int) + 1 := by omega
  have htn : ((K : Int) + 1).toNat = K + 1 := by omega
  have hb2 : ¬ (cap = K + 1) := by omega
  have hb3 : (K : Int) ≤ (n : Int) + 1 := by omega
  have hb4 : ¬ (cap = K) := by omega
  have hKn : K ≤ n := by omega
  clear hsa hsb hcell hsrc hvs hfl hdl
  replace h1 := Lib.hid h1
  replace hW1 := Lib.hid hW1
  replace hg := Lib.hid hg
  replace htk := Lib.hid htk
  replace hn := Lib.hid hn
  replace hcs := Lib.hid hcs
  replace hvb := Lib.hid hvb
  go_enter Tryz.func94, Tryz.ntmps94
  go_wp2_with (simp only [hov])
  go_region_law ((refine step_copy_runI rfl _ _ 27 27 rfl _ _ (by simp [Act.eval, Act.put]) (by simp [Act.eval, Act.put]) (hcp1 _ _ _) ?_))
  go_wp2_with (at_builtin; refine wpList_copy_runI _ rfl _ _ 27 27 rfl _ _ rfl rfl (hcp2 _ (fun _ => rfl) (fun _ => rfl) _ _) ?_)
  go_ret
  exact ⟨rfl, rfl⟩
open Go.RowKit Go.Sort
set_option maxRecDepth 100000 in
set_option maxHeartbeats 4000000 in
theorem lInsert_grow (g cap n K : Nat) (cur : Array Value) (L : List Lf) (l : Lf) (vb : Nat) (w : World) (hg : w.heap[g]? = some (.cells cur 38 (0, 0))) (hn : n = L.length) (hnc : n ≤ cap) (hroom : cap < n + 1) (hn4 : n ≤ 1048576) (hcs : cur.size = cap * 6) (htk : cur.toList.take (n * 6) = flatL L) (hvb : Blk w vb 38 (leafE l).toArray) (hK : K < n) :
    Calls Tryz.prog 94 #[.slice (some ⟨g, 0, none⟩) n cap, .int .i64 (K : Int), .slice (some ⟨vb, 0, none⟩) 1 1] w fun e w' => ∃ G ROW, e = .returned (.slice (some ⟨w.heap.size, 0, none⟩) (n + 1) G) ∧ n + 1 ≤ G ∧ G ≤ maxLen ∧ ROW.size = G * 6 ∧ ROW.toList.take (K * 6) = (flatL L).take (K * 6) ∧ w' = ((w.alloc (.cells ROW 38)).drew.setCells w.heap.size (K * 6) (leafE l)).drew.setCells w.heap.size ((K + 1) * 6) ((flatL L).drop (K * 6)) := by
  obtain ⟨i0, hi0, hz0, hzs, hzb⟩ := info_parts info_leafI
  have hfl : (flatL L).length = n * 6 := by rw [flatL_len, hn]
  have hbw : g < w.heap.size := by
    rcases Nat.lt_or_ge g w.heap.size with h | h
    · exact h
    · rw [Array.getElem?_eq_none h] at hg; cases hg
  have hvw : vb < w.heap.size := hvb.lt
  have hsrc : ∀ j v, (flatL L)[j]? = some v → w.cell? ⟨g, j, none⟩ = some v := fun j v h => by
    rw [cell_of_row w g j cur _ (0, 0) hg, ← Array.getElem?_toList]
    rw [← htk, List.getElem?_take] at h
    split at h
    · exact h
    · cases h
  have hvs : ∀ j v, (leafE l)[j]? = some v → w.cell? ⟨vb, j, none⟩ = some v := fun j v h => by
    rw [hvb.cell j]; simpa using h
  have hik : K + (n + 1 - K) = n + 1 := by omega
  have hkk : (n : Int) + 1 - (K : Int) = ((n + 1 - K : Nat) : Int) := by omega
  have hold : (Builtin.firstCells i0.size K (.slice (some ⟨g, 0, none⟩) K cap)).run Tryz.prog w.drew = .ok ((flatL L).take (K * 6)).toArray w.drew := by
    rw [hzs]
    exact run_firstCells_some w.drew 6 K ⟨g, 0, none⟩ K cap ((flatL L).take (K * 6)) (by rw [List.length_take, hfl]; omega) (fun j v hj => by
      rw [addr0_add]
      rw [List.getElem?_take] at hj
      split at hj
      · exact hsrc j v hj
      · cases hj)
  have hrz : ∀ ty, (Builtin.append_ #[27, 3] ty #[.slice (some ⟨g, 0, none⟩) K cap, .int .i64 ((n : Int) + 1 - (K : Int))]).run Tryz.prog w =
      .ok (.slice (some ⟨w.heap.size, 0, none⟩) (n + 1) (grownCap w (n + 1) cap 38)) (w.drew.alloc (.cells (((flatL L).take (K * 6)).toArray ++ Builtin.zeroCells (Value.agg #[.bool false, .string ⟨#[]⟩, .string ⟨#[]⟩, .bool false, .string ⟨#[]⟩, .string ⟨#[]⟩]).cells (n + 1 - K) ++ Builtin.zeroCells (Value.agg #[.bool false, .string ⟨#[]⟩, .string ⟨#[]⟩, .bool false, .string ⟨#[]⟩, .string ⟨#[]⟩]).cells (grownCap w (n + 1) cap 38 - (n + 1))) 38)) := fun ty => by
    have h := Lib.run_append_grow_zeros w 27 3 ty 38 i0 _ .i64 .i64 Tryz.underlying27 Tryz.underlying3 hi0 hz0 (some ⟨g, 0, none⟩) K cap ((flatL L).take (K * 6)) hold (n + 1 - K) (by omega) (by omega) (by omega) (by omega) (by rw [hzb]; omega) (by rw [hzb, hik]; exact growslice_fits hroom (by omega))
    rw [hik] at h
    rw [hkk]
    exact h
  obtain ⟨G, hG⟩ : ∃ G, G = grownCap w (n + 1) cap 38 := ⟨_, rfl⟩
  obtain ⟨ROW, hROW⟩ : ∃ ROW : Array Value, ROW = ((flatL L).take (K * 6)).toArray ++ Builtin.zeroCells (Value.agg #[.bool false, .string ⟨#[]⟩, .string ⟨#[]⟩, .bool false, .string ⟨#[]⟩, .string ⟨#[]⟩]).cells (n + 1 - K) ++ Builtin.zeroCells (Value.agg #[.bool false, .string ⟨#[]⟩, .string ⟨#[]⟩, .bool false, .string ⟨#[]⟩, .string ⟨#[]⟩]).cells (G - (n + 1)) := ⟨_, rfl⟩
  rw [← hG] at hrz
  rw [← hROW] at hrz
  have hGn : n + 1 ≤ G := by rw [hG]; exact grownCap_ge w _ _ _
  have hG63 : G ≤ maxLen := by rw [hG]; exact grownCap_le_maxLen w (n + 1) cap 38 (by unfold maxLen; omega)
  have hRs : ROW.size = G * 6 := by
    have h1 : ((flatL L).take (K * 6)).length = K * 6 := by rw [List.length_take, hfl]; omega
    rw [hROW]
    simp only [Array.size_append, List.size_toArray, h1, Builtin.zeroCells, Value.cells, Array.size_map, Array.size_range]
    show K * 6 + (n + 1 - K) * 6 + (G - (n + 1)) * 6 = G * 6
    omega
  have hRt : ROW.toList.take (K * 6) = (flatL L).take (K * 6) := by
    have h1 : ((flatL L).take (K * 6)).length = K * 6 := by rw [List.length_take, hfl]; omega
    rw [hROW, Array.toList_append, Array.toList_append, List.append_assoc, List.take_append_of_le_length (by rw [h1]; exact Nat.le_refl _), List.take_of_length_le (by rw [h1]; exact Nat.le_refl _)]
  obtain ⟨N, hN⟩ : ∃ N, N = w.heap.size := ⟨_, rfl⟩
  rw [← hN] at hrz ⊢
  obtain ⟨W1, hW1⟩ : ∃ W1, W1 = w.drew.alloc (.cells ROW 38) := ⟨_, rfl⟩
  rw [← hW1] at hrz
  have hN1 : W1.heap[N]? = some (.cells ROW 38 (0, 0)) := by rw [hW1, hN]; exact heap_alloc_new w.drew _
  have hOv : ∀ j v, w.cell? ⟨vb, j, none⟩ = some v → W1.cell? ⟨vb, j, none⟩ = some v := fun j v h => by rw [hW1]; exact Lib.cell?_alloc_some _ h
  have hOg : ∀ j v, w.cell? ⟨g, j, none⟩ = some v → W1.cell? ⟨g, j, none⟩ = some v := fun j v h => by rw [hW1]; exact Lib.cell?_alloc_some _ h
  have hgN : g ≠ N := by omega
  have hdl : ((flatL L).drop (K * 6)).length = (n - K) * 6 := by rw [List.length_drop, hfl]; omega
  have hcpA : ∀ (W : World), (∀ x, W.cell? x = W1.cell? x) → (∀ x, W.frozen? x = W1.frozen? x) → ∀ ty dc, (Builtin.copy_ #[27, 27] ty #[.slice (some ⟨N, K * 6, none⟩) (n + 1 - K) dc, .slice (some ⟨vb, 0, none⟩) 1 1]).run Tryz.prog W = .ok (goInt (1 : Nat)) (W.setCells N (K * 6) (leafE l)) := fun W hWc hWf ty dc =>
    run_copyK W _ _ ty 38 N (K * 6) (n + 1 - K) dc ⟨vb, 0, none⟩ 1 1 6 1 (leafE l) Tryz.underlying27 info_leafsz (by simp only [Nat.min_def]; split <;> omega) rfl
      (fun j v hj => by rw [addr0_add, hWc]; exact hOv _ v (hvs j v hj))
      (fun j hj => by
        have hj6 : j < 6 := hj
        rw [hWc, cell_of_row W1 N _ _ _ (0, 0) hN1, Array.getElem?_eq_getElem (by rw [hRs]; omega)]; rfl)
      (fun j hj => by rw [hWf]; exact frozen_of_row W1 N _ _ _ hN1) (leaf_one l)
  have hN2 : (W1.setCells N (K * 6) (leafE l)).heap[N]? = some (.cells (writeA ROW (K * 6) (leafE l)) 38 (0, 0)) := setCells_heap _ _ _ _ hN1
  have hcpB : ∀ (W : World), (∀ x, W.cell? x = (W1.setCells N (K * 6) (leafE l)).cell? x) → (∀ x, W.frozen? x = (W1.setCells N (K * 6) (leafE l)).frozen? x) → ∀ ty dc sc, (Builtin.copy_ #[27, 27] ty #[.slice (some ⟨N, (K + 1) * 6, none⟩) (n - K) dc, .slice (some ⟨g, K * 6, none⟩) (n - K) sc]).run Tryz.prog W = .ok (goInt (n - K : Nat)) (W.setCells N ((K + 1) * 6) ((flatL L).drop (K * 6))) := fun W hWc hWf ty dc sc =>
    run_copyK W _ _ ty 38 N ((K + 1) * 6) (n - K) dc ⟨g, K * 6, none⟩ (n - K) sc 6 (n - K) ((flatL L).drop (K * 6)) Tryz.underlying27 info_leafsz (by simp only [Nat.min_def]; split <;> omega) hdl
      (fun j v hj => by
        rw [Addr.add_lit, hWc, World.cell?_setCells_out _ _ _ _ _ (fun h _ => absurd h hgN)]
        exact hOg _ v (hsrc (K * 6 + j) v (by rwa [List.getElem?_drop] at hj)))
      (fun j hj => by
        rw [hdl] at hj
        rw [hWc, cell_of_row _ N _ _ _ (0, 0) hN2, Array.getElem?_eq_getElem (by rw [writeA_size, hRs]; omega)]; rfl)
      (fun j hj => by rw [hWf]; exact frozen_of_row _ N _ _ _ hN2) (fun v hv => flatL_one L v (List.mem_of_mem_drop hv))
  have hc2 : ¬ ((K : Int) = (n : Int)) := by omega
  have hc3 : (cap : Int) < (n : Int) + 1 := by omega
  have hw1 : IntKind.i64.wrap ((K : Int) + 1) = (K : Int) + 1 := by rw [IntKind.wrap_i64]; omega
  have hb1 : (0 : Int) ≤ (K : Int) + 1 := by omega
  have htn : ((K : Int) + 1).toNat = K + 1 := by omega
  have hKn : K ≤ n := by omega
  have hb2 : ¬ (G = K + 1) := by omega
  have hb3 : ¬ (G = K) := by omega
  have hb4 : ¬ (cap = K) := by omega
  have hcK : (K : Int) ≤ (cap : Int) := by omega
  have hG63' : G ≤ 9223372036854775807 := by unfold maxLen at hG63; exact hG63
  subst hW1
  have hE0 : (w.alloc (.cells ROW 38)).drew = w.drew.alloc (.cells ROW 38) := rfl
  have hE1 : ∀ x, ((w.alloc (.cells ROW 38)).drew).cell? x = (w.drew.alloc (.cells ROW 38)).cell? x := fun x => by rw [hE0]
  have hE2 : ∀ x, ((w.alloc (.cells ROW 38)).drew).frozen? x = (w.drew.alloc (.cells ROW 38)).frozen? x := fun x => by rw [hE0]
  have hFd : ∀ (X : World) (x : Addr), X.drew.cell? x = X.cell? x ∧ X.drew.frozen? x = X.frozen? x := fun X x => ⟨rfl, rfl⟩
  have hF1 : ∀ x, (((w.alloc (.cells ROW 38)).drew.setCells N (K * 6) (leafE l)).drew).cell? x = ((w.drew.alloc (.cells ROW 38)).setCells N (K * 6) (leafE l)).cell? x := fun x => by rw [(hFd _ x).1, hE0]
  have hF2 : ∀ x, (((w.alloc (.cells ROW 38)).drew.setCells N (K * 6) (leafE l)).drew).frozen? x = ((w.drew.alloc (.cells ROW 38)).setCells N (K * 6) (leafE l)).frozen? x := fun x => by rw [(hFd _ x).2, hE0]
  clear hE0 hFd
  clear hkk hik hold hROW hG hsrc hvs hOv hOg hN1 hN2 hdl hfl hz0 hzs hzb hi0 hvw hbw
  replace hN := Lib.hid hN
  replace hg := Lib.hid hg
  replace htk := Lib.hid htk
  replace hn := Lib.hid hn
  replace hcs := Lib.hid hcs
  replace hvb := Lib.hid hvb
  replace hRs := Lib.hid hRs
  replace hRt := Lib.hid hRt
  replace hG63 := Lib.hid hG63
  go_enter Tryz.func94, Tryz.ntmps94
  go_wp2_with (first
    | (at_builtin; refine Lib.wpList_append_run _ rfl _ _ _ _ rfl _ _ rfl rfl _ _ (hrz _) ?_)
    | (at_builtin; refine wpList_copy_runI _ rfl _ _ 27 27 rfl _ _ rfl rfl (hcpA _ hE1 hE2 _ _) ?_))
  go_region_law ((refine step_copy_runI rfl _ _ 27 27 rfl (.slice (some ⟨N, (K + 1) * 6, none⟩) (n - K) (G - (K + 1))) (.slice (some ⟨g, K * 6, none⟩) (n - K) (cap - K)) (by simp [Act.eval, Act.put]) (by simp [Act.eval, Act.put]) (hcpB _ hF1 hF2 3 (G - (K + 1)) (cap - K)) ?_))
  go_wp2
  go_ret
  exact ⟨G, ROW, rfl, hGn, hG63.out, hRs.out, hRt.out, rfl⟩
open Go.RowKit Go.Sort
theorem ins_take (R : Array Value) (F E : List Value) (k n : Nat) (hk : k ≤ n) (hF : F.length = n) (hE : E.length = 6) (hR : n + 6 ≤ R.size)
    (h1 : ∀ t, t < k → R[t]? = F[t]?) (h2 : ∀ t, t < 6 → R[k + t]? = E[t]?) (h3 : ∀ t, t < n - k → R[k + 6 + t]? = F[k + t]?) : R.toList.take (n + 6) = F.take k ++ E ++ F.drop k := by
  apply List.ext_getElem?
  intro t
  have hfk : (F.take k).length = k := by rw [List.length_take]; omega
  by_cases ht : t < n + 6
  · rw [List.getElem?_take_of_lt ht, Array.getElem?_toList]
    by_cases c1 : t < k
    · rw [List.append_assoc, List.getElem?_append_left (by omega), List.getElem?_take_of_lt c1]
      exact h1 t c1
    · by_cases c2 : t < k + 6
      · obtain ⟨q, rfl⟩ : ∃ q, t = k + q := ⟨t - k, by omega⟩
        rw [List.append_assoc, List.getElem?_append_right (by omega), List.getElem?_append_left (by omega), hfk, Nat.add_sub_cancel_left]
        exact h2 q (by omega)
      · obtain ⟨q, rfl⟩ : ∃ q, t = k + 6 + q := ⟨t - (k + 6), by omega⟩
        rw [List.append_assoc, List.getElem?_append_right (by omega), List.getElem?_append_right (by omega), hfk, hE, List.getElem?_drop, show k + (k + 6 + q - k - 6) = k + q by omega]
        exact h3 q (by omega)
  · rw [List.getElem?_eq_none (by rw [List.length_take]; omega), List.getElem?_eq_none (by simp; omega)]
theorem take_at {cur : Array Value} {F : List Value} {m : Nat} (h : cur.toList.take m = F.take m) {t : Nat} (ht : t < m) : cur[t]? = F[t]? := by
  rw [← Array.getElem?_toList, ← List.getElem?_take_of_lt ht, h, List.getElem?_take_of_lt ht]
theorem drew_heap (X : World) : X.drew.heap = X.heap := rfl
end Go.Proofs.YtoaggmegmgdgbaaGreat
