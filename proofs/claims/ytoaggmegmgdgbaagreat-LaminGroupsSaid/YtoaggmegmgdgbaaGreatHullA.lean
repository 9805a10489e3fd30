import Derived.Test.YtoaggmegmgdgbaaGreatGapA
import Derived.Test.YtoaggmegmgdgbaaGreatBack
import Derived.Test.YtoaggmegmgdgbaaGreatLamP
import Derived.Test.YtoaggmegmgdgbaaGreatTail
import Derived.Deep.CutBlock
import Derived.Deep.CutRange
namespace Go.Proofs.YtoaggmegmgdgbaaGreat
open Go.RowKit Go.Sort Go.Maps
theorem own_formH {w : World} {B : Nat} {e : TypeId} {size n : Nat} {v : Value} {xs : List Value} (h : w.ownsRow B e size v n xs) : ∃ A c, v = .slice A n c ∧ (A = none → c = 0) ∧ (0 < n → ∃ g, A = some ⟨g, 0, none⟩) := by
  rcases h.2 with ⟨rfl, h0⟩ | ⟨g, cap, cur, rfl, -⟩
  · exact ⟨none, 0, by rw [h0], fun _ => rfl, fun h => by omega⟩
  · exact ⟨_, _, rfl, (fun h => by cases h), fun _ => ⟨g, rfl⟩⟩
theorem row_cellH {w : World} {B g n cap : Nat} {L : List PT} (h : w.ownsRow B 26 3 (.slice (some ⟨g, 0, none⟩) n cap) n (L.flatMap encP)) {i : Nat} (hi : i < L.length) : ∀ (j : Nat) (u : Value), (encP L[i]!)[j]? = some u → w.cell? ⟨g, i * 3 + j, none⟩ = some u := fun j u hu => by
  have hj : j < 3 := by
    obtain ⟨h1, -⟩ := List.getElem?_eq_some_iff.1 hu
    rwa [encP_len] at h1
  have e := flatMap_get encP 3 encP_len L i j hi hj
  rw [← getElem!_pos L i hi, hu] at e
  have := World.ownsRow.cells h (g := g) rfl _ _ e
  rwa [addr0_add] at this
theorem attach_flatH (L : List Lf) (hL : ∀ p, p ∈ L → AngL p) : (L.attachWith AngL hL).flatMap encL = flatL L := by
  induction L with
  | nil => rfl
  | cons a r ih =>
    rw [List.attachWith_cons, List.flatMap_cons, ih]
    rfl
theorem val_flatH (L : List LfT) : L.flatMap encL = flatL (L.map Subtype.val) := by
  unfold flatL
  rw [List.flatMap_map]; rfl
theorem hull_sorted {E : List PT} (hE : ∀ p, p ∈ E → Ang p) (hr : Rises below_ E) (hL : ∀ m, m ∈ hullRaw E → AngL m) (d' : Array LfT) (hs : d'.size = (hullRaw E).length) (hp : PermIn 0 (hullRaw E).length ((hullRaw E).attachWith AngL hL).toArray d') (hsort : SortedIn (ltOf cfL) 0 (hullRaw E).length d') : d'.toList.map Subtype.val = hullL E := by
  have hnd := hullRaw_nodup hE hr
  unfold hullL
  generalize hullRaw E = L at *
  have hperm : d'.toList.Perm (L.attachWith AngL hL) := by
    have h := hp.2.2
    have e1 : d'.extract 0 L.length = d' := by rw [← hs]; simp
    have e2 : (L.attachWith AngL hL).toArray.extract 0 L.length = (L.attachWith AngL hL).toArray := by
      have : L.length = (L.attachWith AngL hL).toArray.size := by simp
      rw [this]; exact Array.extract_size
    rw [e1, e2] at h
    exact h
  have hvp : (d'.toList.map Subtype.val).Perm L := by
    have h := hperm.map Subtype.val
    have e : ∀ (M : List Lf) (hM : ∀ m, m ∈ M → AngL m), (M.attachWith AngL hM).map Subtype.val = M := fun M => by
      induction M with
      | nil => intro _; rfl
      | cons a r ih => intro hM; rw [List.attachWith_cons, List.map_cons, ih]
    rwa [e L hL] at h
  obtain ⟨u1, u2⟩ := foldl_putS L up_nil hL
  refine up_ext ⟨fun m hm => ?_, ?_⟩ u1 (fun m => ?_)
  · obtain ⟨x, -, rfl⟩ := List.mem_map.1 hm
    exact x.2
  · have hn2 : (d'.toList.map Subtype.val).Nodup := hvp.nodup_iff.2 hnd
    rw [List.pairwise_iff_getElem]
    intro i j hi hj hij
    rw [List.length_map] at hi hj
    have hi' : i < d'.size := by simpa using hi
    have hj' : j < d'.size := by simpa using hj
    have h1 := hsort i j (Nat.zero_le _) hij (by omega)
    rw [getElem!_pos d' i hi', getElem!_pos d' j hj'] at h1
    have h2 : ¬ ordL d'[j].1 d'[i].1 < 0 := of_decide_eq_false (p := ordL d'[j].1 d'[i].1 < 0) h1
    have h3 : d'[i].1 ≠ d'[j].1 := by
      have := List.pairwise_iff_getElem.1 hn2 i j (by simpa using hi') (by simpa using hj') hij
      simpa using this
    simp only [List.getElem_map, Array.getElem_toList]
    rcases ordL_tri d'[i].2 d'[j].2 with h | h | h
    · exact h
    · exact absurd h h3
    · exact absurd h h2
  · rw [u2, hvp.mem_iff]
    simp
theorem lsortH (B : Nat) (v : Value) (L : List Lf) (hL : ∀ m, m ∈ L → AngL m) (w : World) (h : LRow w B v L) (hlen : L.length ≤ 4194304) :
    Calls Tryz.prog 104 #[v, .func (.func 105) #[] #[]] w fun e w' => e = .returned (.tuple #[]) ∧ ∃ d' : Array LfT, d'.size = L.length ∧ PermIn 0 L.length (L.attachWith AngL hL).toArray d' ∧ SortedIn (ltOf cfL) 0 L.length d' ∧ Hid (LRow w' B v (d'.toList.map Subtype.val)) ∧ Hid (w.grownBy w' v.ownBlock) := by
  rcases h.2 with ⟨rfl, h0⟩ | ⟨g, cap, cur, rfl, hbg, -⟩
  · have h0' : L = [] := List.eq_nil_of_length_eq_zero h0
    subst h0'
    refine (lsort_nilL 0 _ w).mono ?_
    rintro e W' ⟨rfl, hb2⟩
    exact ⟨rfl, #[], rfl, ⟨rfl, fun i _ => rfl, by simp⟩, fun i j _ _ hj => absurd hj (Nat.not_lt_zero _), Lib.hid (World.ownsRow_nil _ _ _ _), Lib.hid (gOfBelow hb2)⟩
  · obtain ⟨d, hd⟩ : ∃ d : Array LfT, d = (L.attachWith AngL hL).toArray := ⟨_, rfl⟩
    have hsz : d.size = L.length := by rw [hd]; simp
    have hflat : flatL L = d.toList.flatMap encL := by rw [hd]; exact (attach_flatH L hL).symm
    unfold LRow at h
    rw [hflat, ← hsz] at h
    rw [← hsz]
    refine (lsortL_own B g cap d w h (by omega)).mono ?_
    rintro e W' ⟨rfl, d', hs', hp, hsort, hown', hg⟩
    refine ⟨rfl, d', hs', by rw [← hd]; exact hp, hsort, Lib.hid ?_, Lib.hid hg.out⟩
    unfold LRow
    rw [← val_flatH, List.length_map, Array.length_toList, hs']
    exact hown'.out
set_option maxRecDepth 100000 in
set_option maxHeartbeats 4000000 in
theorem lhull_any (B : Nat) (v : Value) (E : List PT) (w : World) (hv : w.ownsRow B 26 3 v E.length (E.flatMap encP)) (hE : ∀ p, p ∈ E → Ang p) (hr : Rises below_ E) (hlen : E.length ≤ 1048576) :
    Calls Tryz.prog 60 #[v] w (fun e w' => ∃ v', e = .returned v' ∧ Hid (LRow w' w.heap.size v' (hullL E)) ∧ Hid (Below w.heap.size w w')) := by
  obtain ⟨A, c, rfl, hAc, hA⟩ := own_formH hv
  obtain ⟨i0, hi, hz0, hz1, hz2⟩ := info_parts info_leafI
  have hRow := Lib.hid hv
  have hLeaf : Hid (∀ i j, i < E.length → j < E.length → ∀ W, Calls Tryz.prog 75 #[.agg #[.bool false, .string (natS E[i]!.1), .string (natS E[i]!.2)], .agg #[.bool false, .string (natS E[j]!.1), .string (natS E[j]!.2)]] W (RetVal (leafV (mkL E[i]! E[j]!)) W)) := Lib.hid (fun i j h1 h2 W => lleaf_any _ _ W (by rw [getElem!_pos E i h1]; exact hE _ (List.getElem_mem h1)) (by rw [getElem!_pos E j h2]; exact hE _ (List.getElem_mem h2)))
  obtain ⟨n, hn⟩ : ∃ n, n = E.length := ⟨_, rfl⟩
  have hn4 : n ≤ 1048576 := by omega
  rw [← hn]
  have hAng := Lib.hid hE
  have hRis := Lib.hid hr
  replace hn := Lib.hid hn
  have hB := Lib.hid (Below.refl w.heap.size w)
  clear hv hE hr hlen
  go_enter Tryz.func60, Tryz.ntmps60
  go_wp2
  go_loopg [4, 3] n (fun kx s4 s3 wr => ∃ (i : Nat) (v3 : Value), s4 = .int .i64 ((i : Int) + 1) ∧ v3 = s3 ∧ (i + 1 ≤ n ∨ i = 0) ∧ n - (i + 1) ≤ kx ∧ Hid (LRow wr w.heap.size v3 ((List.range i).map fun k => mkL E[k]! E[k + 1]!)) ∧ Hid (Below w.heap.size w wr))
  case atStart => exact ⟨0, _, by simp, rfl, .inr rfl, by omega, Lib.hid (World.ownsRow_nil _ _ _ _), hB⟩
  case round =>
    clear hB
    obtain ⟨i, v3, rfl, rfl, hin, hg, hown, hB⟩ := hrel
    by_cases hlt : i + 1 < n
    case pos =>
      have hil : i + 1 < E.length := by rw [← hn.out]; exact hlt
      obtain ⟨g, rfl⟩ := hA (by rw [← hn.out]; omega)
      obtain ⟨p, hp⟩ : ∃ m, m = E[i]! := ⟨_, rfl⟩
      obtain ⟨q, hq⟩ : ∃ m, m = E[i + 1]! := ⟨_, rfl⟩
      obtain ⟨m, hm⟩ : ∃ m, m = mkL p q := ⟨_, rfl⟩
      have hCp := row_cellH (by have h := own_below hRow.out hB.out; exact h) (show i < E.length by omega)
      have hCq := row_cellH (by have h := own_below hRow.out hB.out; exact h) hil
      have cL : ∀ d os, Calls Tryz.prog 75 #[.agg #[.bool false, .string (natS p.1), .string (natS p.2)], .agg #[.bool false, .string (natS q.1), .string (natS q.2)]] (grow (redrawn wr d) os) fun e w'' => e = .returned (.agg #[.bool false, .string (natS m.1.1), .string (natS m.1.2), .bool false, .string (natS m.2.1), .string (natS m.2.2)]) ∧ ∃ p : Regrown, w'' = grow (redrawn wr p.d) p.os := fun d os => by
        rw [hm, hp, hq]
        exact Calls.regrown_of (hLeaf.out i (i + 1) (by omega) hil _)
      rw [← hp] at hCp
      rw [← hq] at hCq
      have p0 : ∀ d os, (grow (redrawn wr d) os).cell? ⟨g, i * 3, none⟩ = some (.bool false) := cell_regrown (hCp 0 _ rfl)
      have p1 : ∀ d os, (grow (redrawn wr d) os).cell? ⟨g, i * 3 + 1, none⟩ = some (.string (natS p.1)) := cell_regrown (hCp 1 _ rfl)
      have p2 : ∀ d os, (grow (redrawn wr d) os).cell? ⟨g, i * 3 + 2, none⟩ = some (.string (natS p.2)) := cell_regrown (hCp 2 _ rfl)
      have q0 : ∀ d os, (grow (redrawn wr d) os).cell? ⟨g, (i + 1) * 3, none⟩ = some (.bool false) := cell_regrown (hCq 0 _ rfl)
      have q1 : ∀ d os, (grow (redrawn wr d) os).cell? ⟨g, (i + 1) * 3 + 1, none⟩ = some (.string (natS q.1)) := cell_regrown (hCq 1 _ rfl)
      have q2 : ∀ d os, (grow (redrawn wr d) os).cell? ⟨g, (i + 1) * 3 + 2, none⟩ = some (.string (natS q.2)) := cell_regrown (hCq 2 _ rfl)
      clear hCp hCq hil
      obtain ⟨A3, c3, rfl, -⟩ := LRow.form hown.out
      rw [List.length_map, List.length_range]
      have hiz : (i : Int) + 1 < (n : Int) := by omega
      have hs1 : IntKind.i64.wrap ((i : Int) + 1 - 1) = (i : Int) := by rw [IntKind.wrap_i64]; omega
      have hs2 : IntKind.i64.wrap ((i : Int)) = (i : Int) := by rw [IntKind.wrap_i64]; omega
      have hs3 : IntKind.i64.wrap ((i : Int) + 1 + 1) = (i : Int) + 1 + 1 := by rw [IntKind.wrap_i64]; omega
      have hs4 : ((i : Int) + 1).toNat = i + 1 := by omega
      have hs5 : (0 : Int) ≤ (i : Int) + 1 := by omega
      have hs6 : (i : Int) < (n : Int) := by omega
      replace hp := Lib.hid hp
      replace hq := Lib.hid hq
      replace hm := Lib.hid hm
      go_upto_region 5 with fail
      refine wp_region_any (by kernel_rfl) ?_
      refine wpAny_take (i := 0) (v := ?_) rfl (by kernel_rfl) (by kernel_rfl) (by kernel_rfl) (fun _ _ _ h => h) (Or.inl ⟨by rfl, ?_⟩) ?_
      rotate_left
      · intro w; go_simp; try with_reducible rfl
      refine wpAny_tail_below 1 11 (by kernel_rfl) ?_
      simp only [List.take_succ_cons, List.take_zero, List.drop_succ_cons, List.drop_zero]
      iterate 9 (quiet_step (fail))
      quiet_step (exact cL _ _)
      refine wpQuiet_nil ?_
      intro w2 hb2
      have hBs := hB.out.size
      have hB2 := hB.out.trans (hb2.mono hBs)
      have hown2 := LRow.below hown.out hb2
      unfold LRow at hown2
      rw [List.length_map, List.length_range] at hown2
      have hB2s := hB2.size
      replace hB2 := Lib.hid hB2
      replace hown2 := Lib.hid hown2
      clear hown hB hb2 cL p0 p1 p2 q0 q1 q2
      go_wp2_with (at_builtin; refine wpList_append_own _ rfl _ _ 27 rfl w.heap.size 38 i0 (.agg #[.bool false, .string ⟨#[]⟩, .string ⟨#[]⟩, .bool false, .string ⟨#[]⟩, .string ⟨#[]⟩]) 6 80 Tryz.underlying27 hi hz0 hz1 hz2 rfl (by decide) _ _ _ rfl (World.ownsRow.alloc hown2.out (.cells #[.bool false, .string (natS m.1.1), .string (natS m.1.2), .bool false, .string (natS m.2.1), .string (natS m.2.2)] 38)) ⟨w2.heap.size, 0, none⟩ 1 1 (leafE m) rfl rfl (leaf_news (Blk.new w2 38 (leafE m).toArray)) (leaf_one m) (by unfold maxLen; omega) (by omega) (by simp; omega) ?_; intro v5 w4 hown5 hgrow5 _)
      have hLs : (((List.range (i + 1)).map fun k => mkL E[k]! E[k + 1]!)) = ((List.range i).map fun k => mkL E[k]! E[k + 1]!) ++ [m] := by
        rw [List.range_succ, List.map_append, hm.out, hp.out, hq.out]; rfl
      have hn5 : Hid (LRow w4 w.heap.size v5 ((List.range (i + 1)).map fun k => mkL E[k]! E[k + 1]!)) := Lib.hid (by
        rw [hLs]
        exact LRow.snoc (n := i) (by simp) hown5)
      have hB5 : Hid (Below w.heap.size w w4) := Lib.hid ((hB2.out.alloc hB2s _).grown hgrow5 (by simp; omega) (fun k hk => (World.ownsRow.lt hown2.out k hk).1))
      clear hgrow5 hown5 hLs hs1 hs2 hs4 hs5 hs6
      go_wp2_with fail
      clear hs3
      go_roundg (n - (i + 1 + 1))
      case measure => omega
      case rel => exact ⟨i + 1, _, by simp, rfl, by omega, Nat.le_refl _, hn5, hB5⟩
    case neg =>
      have hi1 : i = n - 1 := by omega
      have hs3 : IntKind.i64.wrap ((n : Int) - 1) = (n : Int) - 1 := by rw [IntKind.wrap_i64]; omega
      have hraw : Hid (hullRaw E = ((List.range i).map fun k => mkL E[k]! E[k + 1]!) ++ (if 2 < n then [mkL E[0]! E[n - 1]!] else [])) := Lib.hid (by unfold hullRaw; rw [← hn.out, hi1])
      have hTail : Hid (∀ (W : World) (v : Value), LRow W w.heap.size v (hullRaw E) → Below w.heap.size w W → Calls Tryz.prog 104 #[v, .func (.func 105) #[] #[]] W fun e w' => e = .returned (.tuple #[]) ∧ Hid (LRow w' w.heap.size v (hullL E)) ∧ Hid (Below w.heap.size w w')) := Lib.hid (fun W v h1 h2 => by
        refine (lsortH w.heap.size v (hullRaw E) (hullRaw_ang hAng.out) W h1 (by rw [hraw.out, List.length_append, List.length_map, List.length_range]; split <;> simp <;> omega)).mono ?_
        rintro e w' ⟨rfl, d', k1, k2, k3, k4, k5⟩
        rw [hull_sorted hAng.out hRis.out (hullRaw_ang hAng.out) d' k1 k2 k3] at k4
        exact ⟨rfl, k4, Lib.hid (h2.grown k5.out h2.size (fun k hk => (World.ownsRow.lt h1 k hk).1))⟩)
      have hiz : ¬ (i : Int) + 1 < (n : Int) := by omega
      by_cases hn2 : 2 < n
      case neg =>
        have hfin := Lib.hid (hTail.out wr v3 (by
          rw [hraw.out, if_neg hn2, List.append_nil]
          exact hown.out) hB.out)
        have hn2z : ¬ (2 : Int) < (n : Int) := by omega
        clear hTail hraw hown hB hs3 hg hlt hin hi1 hLeaf hRow
        go_wp2_with fail
        refine hfin.out.mono ?_
        rintro en w6 ⟨rfl, hL6, hB6⟩
        clear hfin
        go_wp2_with fail
        go_ret
        exact ⟨_, rfl, hL6, hB6⟩
      case pos =>
        obtain ⟨g, rfl⟩ := hA (by rw [← hn.out]; omega)
        obtain ⟨p, hp⟩ : ∃ m, m = E[0]! := ⟨_, rfl⟩
        obtain ⟨q, hq⟩ : ∃ m, m = E[n - 1]! := ⟨_, rfl⟩
        obtain ⟨m, hm⟩ : ∃ m, m = mkL p q := ⟨_, rfl⟩
        have hCp := row_cellH (by have h := own_below hRow.out hB.out; exact h) (show 0 < E.length by rw [← hn.out]; omega)
        have hCq := row_cellH (by have h := own_below hRow.out hB.out; exact h) (show n - 1 < E.length by rw [← hn.out]; omega)
        have cL : ∀ d os, Calls Tryz.prog 75 #[.agg #[.bool false, .string (natS p.1), .string (natS p.2)], .agg #[.bool false, .string (natS q.1), .string (natS q.2)]] (grow (redrawn wr d) os) fun e w'' => e = .returned (.agg #[.bool false, .string (natS m.1.1), .string (natS m.1.2), .bool false, .string (natS m.2.1), .string (natS m.2.2)]) ∧ ∃ p : Regrown, w'' = grow (redrawn wr p.d) p.os := fun d os => by
          rw [hm, hp, hq]
          exact Calls.regrown_of (hLeaf.out 0 (n - 1) (by rw [← hn.out]; omega) (by rw [← hn.out]; omega) _)
        rw [← hp] at hCp
        rw [← hq] at hCq
        have p0 : ∀ d os, (grow (redrawn wr d) os).cell? ⟨g, 0, none⟩ = some (.bool false) := cell_regrown (by have h := hCp 0 _ rfl; simpa using h)
        have p1 : ∀ d os, (grow (redrawn wr d) os).cell? ⟨g, 1, none⟩ = some (.string (natS p.1)) := cell_regrown (by have h := hCp 1 _ rfl; simpa using h)
        have p2 : ∀ d os, (grow (redrawn wr d) os).cell? ⟨g, 2, none⟩ = some (.string (natS p.2)) := cell_regrown (by have h := hCp 2 _ rfl; simpa using h)
        have q0 : ∀ d os, (grow (redrawn wr d) os).cell? ⟨g, (n - 1) * 3, none⟩ = some (.bool false) := cell_regrown (hCq 0 _ rfl)
        have q1 : ∀ d os, (grow (redrawn wr d) os).cell? ⟨g, (n - 1) * 3 + 1, none⟩ = some (.string (natS q.1)) := cell_regrown (hCq 1 _ rfl)
        have q2 : ∀ d os, (grow (redrawn wr d) os).cell? ⟨g, (n - 1) * 3 + 2, none⟩ = some (.string (natS q.2)) := cell_regrown (hCq 2 _ rfl)
        clear hCp hCq
        have hraw2 : Hid (hullRaw E = ((List.range i).map fun k => mkL E[k]! E[k + 1]!) ++ [m]) := Lib.hid (by rw [hraw.out, if_pos hn2, hm, hp, hq])
        obtain ⟨A3, c3, rfl, -⟩ := LRow.form hown.out
        rw [List.length_map, List.length_range]
        have hn2z : (2 : Int) < (n : Int) := by omega
        have hn0z : (0 : Int) < (n : Int) := by omega
        have hn0 : 0 < n := by omega
        have hs4 : ((n : Int) - 1).toNat = n - 1 := by omega
        have hs5 : (0 : Int) ≤ (n : Int) - 1 := by omega
        have hs6 : (n : Int) - 1 < (n : Int) := by omega
        have hs7 : (1 : Int) ≤ (n : Int) := by omega
        have hs8 : 1 ≤ n := by omega
        have hi4 : i ≤ 1048576 := by omega
        replace hp := Lib.hid hp
        replace hq := Lib.hid hq
        replace hm := Lib.hid hm
        replace hi1 := Lib.hid hi1
        clear hg hin hLeaf hRow hraw
        go_upto_region 7 with fail
        refine wp_region_any (by kernel_rfl) ?_
        refine wpAny_take (i := 0) (v := ?_) rfl (by kernel_rfl) (by kernel_rfl) (by kernel_rfl) (fun _ _ _ h => h) (Or.inl ⟨by rfl, ?_⟩) ?_
        rotate_left
        · intro w; go_simp; try with_reducible rfl
        refine wpAny_tail_below 1 11 (by kernel_rfl) ?_
        simp only [List.take_succ_cons, List.take_zero, List.drop_succ_cons, List.drop_zero]
        iterate 9 (quiet_step (fail))
        quiet_step (exact cL _ _)
        refine wpQuiet_nil ?_
        intro w2 hb2
        have hBs := hB.out.size
        have hB2 := hB.out.trans (hb2.mono hBs)
        have hown2 := LRow.below hown.out hb2
        unfold LRow at hown2
        rw [List.length_map, List.length_range] at hown2
        have hB2s := hB2.size
        replace hB2 := Lib.hid hB2
        replace hown2 := Lib.hid hown2
        clear hown hB hb2 cL p0 p1 p2 q0 q1 q2
        go_wp2_with (at_builtin; refine wpList_append_own _ rfl _ _ 27 rfl w.heap.size 38 i0 (.agg #[.bool false, .string ⟨#[]⟩, .string ⟨#[]⟩, .bool false, .string ⟨#[]⟩, .string ⟨#[]⟩]) 6 80 Tryz.underlying27 hi hz0 hz1 hz2 rfl (by decide) _ _ _ rfl (World.ownsRow.alloc hown2.out (.cells #[.bool false, .string (natS m.1.1), .string (natS m.1.2), .bool false, .string (natS m.2.1), .string (natS m.2.2)] 38)) ⟨w2.heap.size, 0, none⟩ 1 1 (leafE m) rfl rfl (leaf_news (Blk.new w2 38 (leafE m).toArray)) (leaf_one m) (by unfold maxLen; omega) (by omega) (by simp; omega) ?_; intro v5 w4 hown5 hgrow5 _)
        have hfin := Lib.hid (hTail.out w4 v5 (by
          rw [hraw2.out]
          exact LRow.snoc (n := i) (by simp) hown5) ((hB2.out.alloc hB2s _).grown hgrow5 (by simp; omega) (fun k hk => (World.ownsRow.lt hown2.out k hk).1)))
        clear hTail hraw2 hown5 hgrow5 hs3 hs4 hs5 hs6 hs7 hs8
        go_wp2_with fail
        refine hfin.out.mono ?_
        rintro en w6 ⟨rfl, hL6, hB6⟩
        clear hfin
        go_wp2_with fail
        go_ret
        exact ⟨_, rfl, hL6, hB6⟩
end Go.Proofs.YtoaggmegmgdgbaaGreat
