import Derived.Test.YtoaggmegmgdgbaaGreatLamH
import Derived.Test.YtoaggmegmgdgbaaGreatSort
import Derived.Test.YtoaggmegmgdgbaaGreatDrawn
import Derived.Test.YtoaggmegmgdgbaaGreatLamB
import Derived.Lib.SlicesCompact
import Derived.Lib.SliceRun
namespace Go.Proofs.YtoaggmegmgdgbaaGreat
open Go.Shelf Go.RowKit Go.Lib Go.Sort
abbrev AngT := { p : Nat × Nat // Ang p }
instance : Inhabited AngT := ⟨⟨(0, 1), by decide, by decide, by decide⟩⟩
def encA (x : AngT) : List Value := [.bool false, .string (natS x.1.1), .string (natS x.1.2)]
def cfA (x y : AngT) : Int := cmpP x.1 y.1
theorem swoA : SWO (ltOf cfA) where
  irrefl x := by simp [ltOf, cfA, cmpP_refl]
  trans x y z h1 h2 := decide_eq_true (cmpP_trans y.2.pos z.2.pos (of_decide_eq_true h1) (of_decide_eq_true h2))
  ntrans x y z h1 h2 := by
    have h1 := of_decide_eq_false h1
    have h2 := of_decide_eq_false h2
    refine decide_eq_false (fun h => ?_)
    have h : cmpP x.1 z.1 < 0 := h
    have h1 : ¬ cmpP x.1 y.1 < 0 := h1
    have h2 : ¬ cmpP y.1 z.1 < 0 := h2
    rcases cmpP_bd x.1 y.1 with e | e | e
    · omega
    · have := (cmpP_eq x.2 y.2).1 e
      rw [this] at h
      exact h2 h
    · have h3 : cmpP y.1 x.1 < 0 := cmpP_anti.2 (by omega)
      exact h2 (cmpP_trans x.2.pos z.2.pos h3 h)
theorem cmpLaysA (blk off size : Nat) (w : World) : CmpLays Tryz.prog 65 #[] encA 3 cfA blk off size w :=
  fun _ _ _ _ x y => Calls.grown_of (lcmp_any x.1 y.1 _ x.2 y.2)
set_option maxHeartbeats 1000000 in
theorem lsortA (blk off cap : Nat) (d : Array AngT) (w : World) (hH : HoldsK encA 3 w blk off d) (hblk : blk < w.heap.size) (hsz : d.size < 4611686018427387904) :
    Calls Tryz.prog 107 #[.slice (some ⟨blk, off, none⟩) d.size cap, .func (.func 65) #[] #[]] w fun e w' => e = .returned (.tuple #[]) ∧ ∃ d' n os, PermIn 0 d.size d d' ∧ SortedIn (ltOf cfA) 0 d.size d' ∧ w' = sortWorldK encA 3 w blk off n d' os := by
  have eg : ∀ args w, (callFunc 65 args).run Tryz.prog w = .ok (.enter 65 args) w := enters_of Tryz.func65 (by kernel_rfl) rfl
  exact AnyQ.slices_SortFunc Tryz.sortRat 3 Tryz.isAgg26 Tryz.sizeOf26 encA (fun _ => rfl) (fun x v hv => by simp [encA] at hv; rcases hv with rfl | rfl | rfl <;> rfl) cfA swoA 65 #[] blk off cap d w eg (cmpLaysA blk off d.size w) hH hblk hsz
open Go.Shelf Go.RowKit Go.Lib Go.Sort
abbrev LfT := { l : Lf // AngL l }
instance : Inhabited LfT := ⟨⟨((0, 1), (0, 1)), ⟨by decide, by decide, by decide⟩, ⟨by decide, by decide, by decide⟩⟩⟩
def encL (x : LfT) : List Value := leafE x.1
def cfL (x y : LfT) : Int := ordL x.1 y.1
theorem ordL_lt {l m : Lf} (hl : AngL l) (hm : AngL m) : ordL l m < 0 ↔ cmpP l.1 m.1 < 0 ∨ (l.1 = m.1 ∧ cmpP l.2 m.2 < 0) := by
  unfold ordL
  split
  · rename_i h
    have := (cmpP_eq hl.1 hm.1).1 h
    constructor
    · exact fun h2 => .inr ⟨this, h2⟩
    · rintro (h2 | ⟨-, h2⟩)
      · omega
      · exact h2
  · rename_i h
    constructor
    · exact fun h2 => .inl h2
    · rintro (h2 | ⟨h2, -⟩)
      · exact h2
      · exact absurd ((cmpP_eq hl.1 hm.1).2 h2) h
theorem ordL_trans {l m k : Lf} (hl : AngL l) (hm : AngL m) (hk : AngL k) (h1 : ordL l m < 0) (h2 : ordL m k < 0) : ordL l k < 0 := by
  rw [ordL_lt hl hm] at h1
  rw [ordL_lt hm hk] at h2
  rw [ordL_lt hl hk]
  rcases h1 with h1 | ⟨e1, h1⟩ <;> rcases h2 with h2 | ⟨e2, h2⟩
  · exact .inl (cmpP_trans hm.1.pos hk.1.pos h1 h2)
  · exact .inl (e2 ▸ h1)
  · exact .inl (e1 ▸ h2)
  · exact .inr ⟨e1.trans e2, cmpP_trans hm.2.pos hk.2.pos h1 h2⟩
theorem ordL_tri {l m : Lf} (hl : AngL l) (hm : AngL m) : ordL l m < 0 ∨ l = m ∨ ordL m l < 0 := by
  rw [ordL_lt hl hm, ordL_lt hm hl]
  rcases cmpP_bd l.1 m.1 with e | e | e
  · exact .inl (.inl (by omega))
  · have e1 := (cmpP_eq hl.1 hm.1).1 e
    rcases cmpP_bd l.2 m.2 with f | f | f
    · exact .inl (.inr ⟨e1, by omega⟩)
    · exact .inr (.inl (Prod.ext e1 ((cmpP_eq hl.2 hm.2).1 f)))
    · exact .inr (.inr (.inr ⟨e1.symm, cmpP_anti.2 (by omega)⟩))
  · exact .inr (.inr (.inl (cmpP_anti.2 (by omega))))
theorem ordL_refl {l : Lf} : ordL l l = 0 := by simp [ordL, cmpP_refl]
theorem swoL : SWO (ltOf cfL) where
  irrefl x := by simp [ltOf, cfL, ordL_refl]
  trans x y z h1 h2 := decide_eq_true (ordL_trans x.2 y.2 z.2 (of_decide_eq_true h1) (of_decide_eq_true h2))
  ntrans x y z h1 h2 := by
    have h1 := of_decide_eq_false h1
    have h2 := of_decide_eq_false h2
    refine decide_eq_false (fun h => ?_)
    have h : ordL x.1 z.1 < 0 := h
    have h1 : ¬ ordL x.1 y.1 < 0 := h1
    have h2 : ¬ ordL y.1 z.1 < 0 := h2
    rcases ordL_tri x.2 y.2 with e | e | e
    · exact h1 e
    · rw [e] at h
      exact h2 h
    · exact h2 (ordL_trans y.2 x.2 z.2 e h)
theorem leaf_one' (l : Lf) : ∀ u ∈ leafE l, u.oneCell' = true := fun u hu => by
  simp only [leafE, List.mem_cons, List.not_mem_nil, or_false] at hu
  rcases hu with rfl | rfl | rfl | rfl | rfl | rfl <;> rfl
theorem cmpLaysL (blk off size : Nat) (w : World) : CmpLays Tryz.prog 105 #[] encL 6 cfL blk off size w :=
  fun _ _ _ _ x y => Calls.grown_of (lorder_any x.1 y.1 _ x.2 y.2)
set_option maxHeartbeats 1000000 in
theorem lsortL (blk off cap : Nat) (d : Array LfT) (w : World) (hH : HoldsK encL 6 w blk off d) (hblk : blk < w.heap.size) (hsz : d.size < 4611686018427387904) :
    Calls Tryz.prog 104 #[.slice (some ⟨blk, off, none⟩) d.size cap, .func (.func 105) #[] #[]] w fun e w' => e = .returned (.tuple #[]) ∧ ∃ d' n os, PermIn 0 d.size d d' ∧ SortedIn (ltOf cfL) 0 d.size d' ∧ w' = sortWorldK encL 6 w blk off n d' os := by
  have eg : ∀ args w, (callFunc 105 args).run Tryz.prog w = .ok (.enter 105 args) w := enters_of Tryz.func105 (by kernel_rfl) rfl
  exact AnyQ.slices_SortFunc Tryz.sortLeaf 6 Tryz.isAgg38 Tryz.sizeOf38 encL (fun _ => rfl) (fun x v hv => leaf_one' x.1 v hv) cfL swoL 105 #[] blk off cap d w eg (cmpLaysL blk off d.size w) hH hblk hsz
open Go.Shelf Go.RowKit Go.Lib Go.Sort
theorem sortWorldK_grownBy {α : Type} [Inhabited α] (enc : α → List Value) (k : Nat) (w : World) (blk off m : Nat) (d : Array α) (os : Array Obj) : w.grownBy (sortWorldK enc k w blk off m d os) (some blk) where
  os := rfl
  tape := rfl
  output := rfl
  size := by simp [sortWorldK, grow, putRowK, putRow, mapBlock, Sort.ahead]
  block i hi hne := by
    have hne' : blk ≠ i := fun e => hne (by rw [e])
    simp [sortWorldK, grow, putRowK, putRow, mapBlock, Sort.ahead, Array.getElem?_append, hi, Array.getElem_modify, hne']
theorem sortWorldK_block {α : Type} [Inhabited α] {enc : α → List Value} {k : Nat} {w : World} {blk off m : Nat} {d : Array α} {os : Array Obj} {cur : Array Value} {T : TypeId} {fz : Nat × Nat} (h : w.heap[blk]? = some (.cells cur T fz)) : (sortWorldK enc k w blk off m d os).heap[blk]? = some (.cells (putCells id off (flatK enc k d) cur) T fz) := by
  have hi : blk < w.heap.size := by
    rcases Nat.lt_or_ge blk w.heap.size with h2 | h2
    · exact h2
    · rw [Array.getElem?_eq_none h2] at h; cases h
  have hg : w.heap[blk] = .cells cur T fz := by
    rw [Array.getElem?_eq_getElem hi] at h
    exact Option.some.inj h
  simp [sortWorldK, grow, putRowK, putRow, mapBlock, Sort.ahead, Array.getElem?_append, hi, Array.getElem_modify, hg, onCells]
open Go.RowKit Go.Sort
theorem info_ratR : (Tryz.prog.info? 26).map (fun i => (i.zero, i.size, i.bytes)) = some (some (.agg #[.bool false, .string ⟨#[]⟩, .string ⟨#[]⟩]), 3, 40) := by kernel_rfl
set_option maxRecDepth 100000 in
set_option maxHeartbeats 1000000 in
theorem lcloneR_nil (n c : Nat) (w : World) : Calls Tryz.prog 106 #[.slice none n c] w (RetVal (.slice none 0 0) w) := by
  have q : ∀ (w : World) (a : Option Addr) (n c n' c' : Nat), (binOp .eql 22 (.slice a n c) (.slice none n' c')).run Tryz.prog w = .ok (.bool a.isNone) w := fun w a n c n' c' => Lib.run_eql_slice_nil w _ _ a n c n' c' Tryz.underlying22
  go_enter Tryz.func106, Tryz.ntmps106
  go_wp2_with fail
  go_ret
  exact ⟨rfl, Below.refl _ _⟩
set_option maxRecDepth 100000 in
set_option maxHeartbeats 1000000 in
theorem lcloneR (ad : Addr) (n c : Nat) (xs : List Value) (w : World) (hx : xs.length = n * 3) (hc : ∀ (j : Nat) (u : Value), xs[j]? = some u → w.cell? (ad.add j) = some u) (h1 : ∀ u ∈ xs, u.oneCell' = true) (hn : n ≤ 1048576) :
    Calls Tryz.prog 106 #[.slice (some ad) n c] w fun e w' => ∃ v', e = .returned v' ∧ Hid (w'.ownsRow w.heap.size 26 3 v' n xs) ∧ Hid (Below w.heap.size w w') := by
  obtain ⟨i0, hi, hz0, hz1, hz2⟩ := info_parts info_ratR
  have hX := Lib.hid hx
  have hC := Lib.hid (fun (W : World) (hb : Below w.heap.size w W) (j : Nat) (u : Value) (h : xs[j]? = some u) => show W.cell? (ad.add j) = some u by rw [hb.cell (block_lt_of_cell (hc j u h))]; exact hc j u h)
  have hO := Lib.hid h1
  have h0 := Lib.hid (World.ownsRow_made (base := w.heap.size) (e := 26) (size := 3) w #[] 0 (Nat.le_refl _) (Nat.zero_le _) rfl)
  have hB := Lib.hid ((Below.refl w.heap.size w).alloc (Nat.le_refl _) (.cells #[] 26))
  clear hx hc h1
  have q : ∀ (w : World) (a : Option Addr) (n c n' c' : Nat), (binOp .eql 22 (.slice a n c) (.slice none n' c')).run Tryz.prog w = .ok (.bool a.isNone) w := fun w a n c n' c' => Lib.run_eql_slice_nil w _ _ a n c n' c' Tryz.underlying22
  go_enter Tryz.func106, Tryz.ntmps106
  go_wp2_with (at_builtin; refine wpList_append_own _ rfl _ _ 22 rfl w.heap.size 26 i0 (.agg #[.bool false, .string ⟨#[]⟩, .string ⟨#[]⟩]) 3 40 Tryz.underlying22 hi hz0 hz1 hz2 rfl (by decide) _ _ _ rfl h0.out ad n c xs rfl hX.out (hC.out _ hB.out) hO.out (by unfold maxLen; omega) (by omega) (by simp) ?_)
  intro v' w3 hown' hgrow _
  have hB3 := Lib.hid (hB.out.grown hgrow (by simp) (fun k hk => by
    simp only [Value.ownBlock, Option.some.injEq] at hk
    omega))
  replace hown' := Lib.hid hown'
  clear hgrow h0 hC hO hX hB
  go_wp2_with fail
  go_ret
  exact ⟨_, rfl, by simpa using hown', hB3⟩
open Go.Shelf Go.RowKit Go.Lib Go.Sort
theorem flatMap_get {α : Type} (enc : α → List Value) (k : Nat) (hk : ∀ x, (enc x).length = k) (L : List α) (i j : Nat) (hi : i < L.length) (hj : j < k) : (L.flatMap enc)[i * k + j]? = (enc L[i])[j]? := by
  induction L generalizing i with
  | nil => simp at hi
  | cons a r ih =>
    rw [List.flatMap_cons]
    cases i with
    | zero =>
      rw [Nat.zero_mul, Nat.zero_add, List.getElem?_append_left (by rw [hk]; exact hj)]
      rfl
    | succ i =>
      have hi2 : i < r.length := by simpa using hi
      have e : (i + 1) * k + j = k + (i * k + j) := by rw [Nat.succ_mul]; omega
      rw [e, List.getElem?_append_right (by rw [hk]; omega), hk, Nat.add_sub_cancel_left, ih i hi2]
      rfl
theorem flatMap_len {α : Type} (enc : α → List Value) (k : Nat) (hk : ∀ x, (enc x).length = k) (L : List α) : (L.flatMap enc).length = L.length * k := by
  induction L with
  | nil => simp
  | cons a r ih => rw [List.flatMap_cons, List.length_append, hk, ih, List.length_cons, Nat.succ_mul, Nat.add_comm]
theorem putCells_take {α : Type} [Inhabited α] (enc : α → List Value) (k : Nat) (hk : ∀ x, (enc x).length = k) (h0 : 0 < k) (d : Array α) (cur : Array Value) (hs : d.size * k ≤ cur.size) : (putCells id 0 (flatK enc k d) cur).toList.take (d.size * k) = d.toList.flatMap enc := by
  apply List.ext_getElem?
  intro t
  by_cases ht : t < d.size * k
  · have hq : t / k < d.size := (Nat.div_lt_iff_lt_mul h0).2 ht
    have hm : t % k < k := Nat.mod_lt _ h0
    have e1 := flatMap_get enc k hk d.toList (t / k) (t % k) (by simpa using hq) hm
    rw [Nat.mul_comm (t / k) k, Nat.div_add_mod] at e1
    rw [e1, List.getElem?_take, if_pos ht, Array.getElem?_toList]
    have hc : t < cur.size := by omega
    unfold putCells
    rw [Array.getElem?_mapIdx, Array.getElem?_eq_getElem hc]
    have h2 : (0 ≤ t ∧ t < 0 + (flatK enc k d).size) := ⟨Nat.zero_le _, by rw [size_flatK]; omega⟩
    simp only [Option.map_some, if_pos h2, Nat.sub_zero, id]
    rw [get_flatK enc k d t ht, getElem!_pos d _ hq, Array.getElem_toList]
    rw [getElem!_pos _ _ (by rw [hk]; exact hm)]
    exact (List.getElem?_eq_getElem _).symm
  · rw [List.getElem?_take, if_neg ht, List.getElem?_eq_none (by rw [flatMap_len enc k hk]; simpa using ht)]
open Go.Shelf Go.RowKit Go.Lib Go.Sort
theorem lsortA_own (B g cap : Nat) (d : Array AngT) (w : World) (h : w.ownsRow B 26 3 (.slice (some ⟨g, 0, none⟩) d.size cap) d.size (d.toList.flatMap encA)) (hsz : d.size < 4611686018427387904) :
    Calls Tryz.prog 107 #[.slice (some ⟨g, 0, none⟩) d.size cap, .func (.func 65) #[] #[]] w fun e w' => e = .returned (.tuple #[]) ∧ ∃ d', d'.size = d.size ∧ PermIn 0 d.size d d' ∧ SortedIn (ltOf cfA) 0 d.size d' ∧ Hid (w'.ownsRow B 26 3 (.slice (some ⟨g, 0, none⟩) d.size cap) d.size (d'.toList.flatMap encA)) ∧ Hid (w.grownBy w' (some g)) := by
  rcases h.2 with ⟨h0, -⟩ | ⟨g', cap', cur, hv, hb, hg, hn, hm, hc, ht⟩
  · cases h0
  · injection hv with h1 h2 h3
    injection h1 with h1
    injection h1 with h1
    subst h1 h3
    have hlt : g < w.heap.size := by
      rcases Nat.lt_or_ge g w.heap.size with h2 | h2
      · exact h2
      · rw [Array.getElem?_eq_none h2] at hg; cases hg
    have hH : HoldsK encA 3 w g 0 d := by
      intro j hj
      rw [size_flatK] at hj
      have hq : j / 3 < d.size := (Nat.div_lt_iff_lt_mul (by decide)).2 hj
      have e1 := flatMap_get encA 3 (fun _ => rfl) d.toList (j / 3) (j % 3) (by simpa using hq) (Nat.mod_lt _ (by decide))
      rw [Nat.mul_comm (j / 3) 3, Nat.div_add_mod, Array.getElem_toList] at e1
      have e2 : (d.toList.flatMap encA)[j]? = some (flatK encA 3 d)[j]! := by
        rw [e1, get_flatK encA 3 d j hj, getElem!_pos d _ hq, getElem!_pos (encA d[j / 3]) _ (Nat.mod_lt _ (by decide : 0 < 3))]
        exact List.getElem?_eq_getElem _
      have e3 := World.ownsRow.cells h (g := g) rfl j _ e2
      rw [addr0_add] at e3
      refine ⟨by rw [Nat.zero_add]; exact e3, ?_⟩
      simp [World.frozen?, hg]
    refine (lsortA g 0 cap d w hH hlt hsz).mono ?_
    rintro e w' ⟨rfl, d', n, os, hp, hs, rfl⟩
    have hs' : d'.size = d.size := hp.1
    refine ⟨rfl, d', hs', hp, hs, Lib.hid ?_, Lib.hid (sortWorldK_grownBy encA 3 w g 0 n d' os)⟩
    refine ⟨by rw [flatMap_len encA 3 (fun _ => rfl)]; simp [hs'], .inr ⟨g, cap, _, rfl, hb, sortWorldK_block hg, hn, hm, by simp [putCells, hc], ?_⟩⟩
    have := putCells_take encA 3 (fun _ => rfl) (by decide) d' cur (by rw [hs', hc]; exact Nat.mul_le_mul_right _ hn)
    rw [hs'] at this
    exact this
open Go.Shelf Go.RowKit Go.Lib Go.Sort
theorem lsortL_own (B g cap : Nat) (d : Array LfT) (w : World) (h : w.ownsRow B 38 6 (.slice (some ⟨g, 0, none⟩) d.size cap) d.size (d.toList.flatMap encL)) (hsz : d.size < 4611686018427387904) :
    Calls Tryz.prog 104 #[.slice (some ⟨g, 0, none⟩) d.size cap, .func (.func 105) #[] #[]] w fun e w' => e = .returned (.tuple #[]) ∧ ∃ d', d'.size = d.size ∧ PermIn 0 d.size d d' ∧ SortedIn (ltOf cfL) 0 d.size d' ∧ Hid (w'.ownsRow B 38 6 (.slice (some ⟨g, 0, none⟩) d.size cap) d.size (d'.toList.flatMap encL)) ∧ Hid (w.grownBy w' (some g)) := by
  rcases h.2 with ⟨h0, -⟩ | ⟨g', cap', cur, hv, hb, hg, hn, hm, hc, ht⟩
  · cases h0
  · injection hv with h1 h2 h3
    injection h1 with h1
    injection h1 with h1
    subst h1 h3
    have hlt : g < w.heap.size := by
      rcases Nat.lt_or_ge g w.heap.size with h2 | h2
      · exact h2
      · rw [Array.getElem?_eq_none h2] at hg; cases hg
    have hH : HoldsK encL 6 w g 0 d := by
      intro j hj
      rw [size_flatK] at hj
      have hq : j / 6 < d.size := (Nat.div_lt_iff_lt_mul (by decide)).2 hj
      have e1 := flatMap_get encL 6 (fun _ => rfl) d.toList (j / 6) (j % 6) (by simpa using hq) (Nat.mod_lt _ (by decide))
      rw [Nat.mul_comm (j / 6) 6, Nat.div_add_mod, Array.getElem_toList] at e1
      have e2 : (d.toList.flatMap encL)[j]? = some (flatK encL 6 d)[j]! := by
        rw [e1, get_flatK encL 6 d j hj, getElem!_pos d _ hq, getElem!_pos (encL d[j / 6]) _ (Nat.mod_lt _ (by decide : 0 < 6))]
        exact List.getElem?_eq_getElem _
      have e3 := World.ownsRow.cells h (g := g) rfl j _ e2
      rw [addr0_add] at e3
      refine ⟨by rw [Nat.zero_add]; exact e3, ?_⟩
      simp [World.frozen?, hg]
    refine (lsortL g 0 cap d w hH hlt hsz).mono ?_
    rintro e w' ⟨rfl, d', n, os, hp, hs, rfl⟩
    have hs' : d'.size = d.size := hp.1
    refine ⟨rfl, d', hs', hp, hs, Lib.hid ?_, Lib.hid (sortWorldK_grownBy encL 6 w g 0 n d' os)⟩
    refine ⟨by rw [flatMap_len encL 6 (fun _ => rfl)]; simp [hs'], .inr ⟨g, cap, _, rfl, hb, sortWorldK_block hg, hn, hm, by simp [putCells, hc], ?_⟩⟩
    have := putCells_take encL 6 (fun _ => rfl) (by decide) d' cur (by rw [hs', hc]; exact Nat.mul_le_mul_right _ hn)
    rw [hs'] at this
    exact this
section
variable {α : Type} (lt : α → α → Prop)
def Rises (l : List α) : Prop := l.Pairwise lt
theorem rises_ext {lt : α → α → Prop} (hirr : ∀ x, ¬ lt x x) (htr : ∀ x y z, lt x y → lt y z → lt x z) : ∀ {l m : List α}, Rises lt l → Rises lt m → (∀ x, x ∈ l ↔ x ∈ m) → l = m
  | [], [], _, _, _ => rfl
  | [], y :: m, _, _, h => absurd ((h y).2 (List.mem_cons_self ..)) (by simp)
  | x :: l, [], _, _, h => absurd ((h x).1 (List.mem_cons_self ..)) (by simp)
  | x :: l, y :: m, hl, hm, h => by
    obtain ⟨hl1, hl2⟩ := List.pairwise_cons.1 hl
    obtain ⟨hm1, hm2⟩ := List.pairwise_cons.1 hm
    have e : x = y := by
      rcases List.mem_cons.1 ((h x).1 (List.mem_cons_self ..)) with e | e
      · exact e
      rcases List.mem_cons.1 ((h y).2 (List.mem_cons_self ..)) with e2 | e2
      · exact e2.symm
      exact absurd (htr _ _ _ (hm1 _ e) (hl1 _ e2)) (hirr _)
    subst e
    congr 1
    refine rises_ext hirr htr hl2 hm2 fun z => ⟨fun hz => ?_, fun hz => ?_⟩
    · rcases List.mem_cons.1 ((h z).1 (List.mem_cons_of_mem _ hz)) with e | e
      · subst e; exact absurd (hl1 _ hz) (hirr _)
      · exact e
    · rcases List.mem_cons.1 ((h z).2 (List.mem_cons_of_mem _ hz)) with e | e
      · subst e; exact absurd (hm1 _ hz) (hirr _)
      · exact e
end
section
variable {α : Type} [DecidableEq α]
def compactL : List α → List α
  | [] => []
  | [x] => [x]
  | x :: y :: r => if x = y then compactL (y :: r) else x :: compactL (y :: r)
theorem mem_compactL : ∀ {l : List α} {x : α}, x ∈ compactL l ↔ x ∈ l
  | [], x => Iff.rfl
  | [a], x => Iff.rfl
  | a :: b :: r, x => by
    rw [compactL]
    split
    · rename_i e
      subst e
      rw [mem_compactL]
      simp
    · rw [List.mem_cons, mem_compactL]
      simp only [List.mem_cons]
theorem compactL_rises {lt : α → α → Prop} (hlin : ∀ x y, ¬ lt y x → x = y ∨ lt x y) (htr : ∀ x y z, lt x y → lt y z → lt x z) : ∀ {l : List α}, l.Pairwise (fun x y => ¬ lt y x) → Rises lt (compactL l)
  | [], _ => List.Pairwise.nil
  | [a], _ => List.pairwise_singleton _ _
  | a :: b :: r, h => by
    obtain ⟨h1, h2⟩ := List.pairwise_cons.1 h
    rw [compactL]
    split
    · exact compactL_rises hlin htr h2
    · rename_i hne
      have hab : lt a b := (hlin _ _ (h1 b (List.mem_cons_self ..))).resolve_left hne
      refine List.pairwise_cons.2 ⟨fun x hx => ?_, compactL_rises hlin htr h2⟩
      rcases List.mem_cons.1 (mem_compactL.1 hx) with e | e
      · rw [e]; exact hab
      · rcases hlin _ _ ((List.pairwise_cons.1 h2).1 x e) with e2 | e2
        · rw [← e2]; exact hab
        · exact htr _ _ _ hab e2
theorem compactL_snoc : ∀ {l : List α} {x y : α}, compactL (l ++ [x, y]) = if x = y then compactL (l ++ [x]) else compactL (l ++ [x]) ++ [y]
  | [], x, y => by
    by_cases e : x = y
    · subst e; simp [compactL]
    · simp [compactL, e]
  | [a], x, y => by
    by_cases e : x = y
    · subst e
      by_cases e2 : a = x
      · subst e2; simp [compactL]
      · simp [compactL, e2]
    · by_cases e2 : a = x
      · subst e2; simp [compactL, e]
      · simp [compactL, e, e2]
  | a :: b :: r, x, y => by
    have h := compactL_snoc (l := b :: r) (x := x) (y := y)
    have e1 : ∀ t : List α, compactL (a :: b :: t) = if a = b then compactL (b :: t) else a :: compactL (b :: t) := fun t => by simp [compactL]
    simp only [List.cons_append] at h ⊢
    rw [e1, e1, h]
    split <;> split <;> rfl
end
def below_ (p q : Nat × Nat) : Prop := cmpP p q < 0
theorem below_irr (p : Nat × Nat) : ¬ below_ p p := by unfold below_; rw [cmpP_refl]; omega
def posR (out : List (Nat × Nat)) (x : Nat × Nat) : Nat → Nat
  | 0 => 0
  | k + 1 => if 0 < cmpP (out.getD k (0, 0)) x then posR out x k else k + 1
theorem posR_le (out : List (Nat × Nat)) (x : Nat × Nat) : ∀ k, posR out x k ≤ k
  | 0 => Nat.le_refl _
  | k + 1 => by
    rw [posR]
    split
    · have := posR_le out x k; omega
    · exact Nat.le_refl _
theorem posR_right (out : List (Nat × Nat)) (x : Nat × Nat) : ∀ k i, posR out x k ≤ i → i < k → 0 < cmpP (out.getD i (0, 0)) x
  | 0, i, _, h => by omega
  | k + 1, i, h1, h2 => by
    rw [posR] at h1
    split at h1
    · rename_i h
      by_cases e : i = k
      · rw [e]; exact h
      · exact posR_right out x k i h1 (by omega)
    · omega
theorem posR_stop (out : List (Nat × Nat)) (x : Nat × Nat) : ∀ k, 0 < posR out x k → ¬ 0 < cmpP (out.getD (posR out x k - 1) (0, 0)) x
  | 0, h => by cases h
  | k + 1, h => by
    rw [posR] at h ⊢
    split
    · rename_i h2
      rw [if_pos h2] at h
      exact posR_stop out x k h
    · rename_i h2
      simpa using h2
def insR (out : List (Nat × Nat)) (x : Nat × Nat) : List (Nat × Nat) :=
  if 0 < posR out x out.length ∧ out.getD (posR out x out.length - 1) (0, 0) = x then out else out.take (posR out x out.length) ++ x :: out.drop (posR out x out.length)
def riseL (l : List (Nat × Nat)) : List (Nat × Nat) := l.foldl insR []
theorem insR_mem {out : List (Nat × Nat)} {x y : Nat × Nat} : y ∈ insR out x ↔ y = x ∨ y ∈ out := by
  unfold insR
  have hp := posR_le out x out.length
  split
  · rename_i h
    obtain ⟨h1, h2⟩ := h
    have hx : x ∈ out := by
      rw [← h2, List.getD_eq_getElem?_getD, List.getElem?_eq_getElem (by omega)]
      exact List.getElem_mem _
    exact ⟨.inr, fun h => h.elim (fun e => by rw [e]; exact hx) id⟩
  · rw [List.mem_append, List.mem_cons]
    have h3 : y ∈ out ↔ y ∈ out.take (posR out x out.length) ∨ y ∈ out.drop (posR out x out.length) := by
      rw [← List.mem_append, List.take_append_drop]
    rw [h3]
    constructor
    · rintro (h | h | h)
      · exact .inr (.inl h)
      · exact .inl h
      · exact .inr (.inr h)
    · rintro (h | h | h)
      · exact .inr (.inl h)
      · exact .inl h
      · exact .inr (.inr h)
theorem riseL_mem {l : List (Nat × Nat)} {y : Nat × Nat} : y ∈ riseL l ↔ y ∈ l := by
  have h : ∀ (l out : List (Nat × Nat)), y ∈ l.foldl insR out ↔ y ∈ out ∨ y ∈ l := by
    intro l
    induction l with
    | nil => intro out; simp
    | cons a r ih =>
      intro out
      rw [List.foldl_cons, ih, insR_mem, List.mem_cons]
      constructor
      · rintro ((h | h) | h)
        · exact .inr (.inl h)
        · exact .inl h
        · exact .inr (.inr h)
      · rintro (h | h | h)
        · exact .inl (.inr h)
        · exact .inl (.inl h)
        · exact .inr h
  unfold riseL
  rw [h]
  simp
theorem insR_rises {out : List (Nat × Nat)} {x : Nat × Nat} (hx : Ang x) (ho : ∀ y, y ∈ out → Ang y) (h : Rises below_ out) : Rises below_ (insR out x) := by
  have hp := posR_le out x out.length
  unfold insR
  split
  · exact h
  · rename_i hno
    have hd : out.take (posR out x out.length) ++ out.drop (posR out x out.length) = out := List.take_append_drop _ _
    obtain ⟨p, hpe⟩ : ∃ p, p = posR out x out.length := ⟨_, rfl⟩
    have hgt : ∀ y, y ∈ out.drop p → below_ x y := fun y hy => by
      obtain ⟨i, hi, e⟩ := List.mem_iff_getElem.1 hy
      rw [List.length_drop] at hi
      have h1 := posR_right out x out.length (p + i) (by omega) (by omega)
      rw [List.getD_eq_getElem?_getD, List.getElem?_eq_getElem (show p + i < out.length by omega)] at h1
      rw [List.getElem_drop] at e
      simp only [Option.getD_some] at h1
      rw [e] at h1
      unfold below_
      rw [cmpP_anti]
      exact h1
    have hlt : ∀ y, y ∈ out.take p → below_ y x := fun y hy => by
      have hp0 : 0 < p := by
        rcases Nat.eq_zero_or_pos p with e | e
        · rw [e] at hy; simp at hy
        · exact e
      have hlast : p - 1 < out.length := by omega
      have h1 := posR_stop out x out.length (by omega)
      rw [← hpe] at h1 hno
      have hg : out.getD (p - 1) (0, 0) = out[p - 1] := by rw [List.getD_eq_getElem?_getD, List.getElem?_eq_getElem hlast]; rfl
      rw [hg] at h1 hno
      have hz : below_ out[p - 1] x := by
        have hne : out[p - 1] ≠ x := fun e => hno ⟨hp0, e⟩
        have hA := ho _ (List.getElem_mem hlast)
        rcases cmpP_bd out[p - 1] x with e | e | e
        · unfold below_; omega
        · exact absurd ((cmpP_eq hA hx).1 e) hne
        · omega
      obtain ⟨i, hi, e⟩ := List.mem_iff_getElem.1 hy
      rw [List.length_take] at hi
      rw [List.getElem_take] at e
      rw [← e]
      by_cases ei : i = p - 1
      · subst ei; exact hz
      · exact cmpP_trans (ho _ (List.getElem_mem hlast)).pos hx.pos (List.pairwise_iff_getElem.1 h i (p - 1) (by omega) hlast (by omega)) hz
    rw [← hpe] at hd ⊢
    have h2 : (out.take p ++ out.drop p).Pairwise below_ := by rw [hd]; exact h
    obtain ⟨a1, a2, a3⟩ := List.pairwise_append.1 h2
    refine List.pairwise_append.2 ⟨a1, List.pairwise_cons.2 ⟨hgt, a2⟩, fun y hy z hz => ?_⟩
    rcases List.mem_cons.1 hz with e | e
    · rw [e]; exact hlt y hy
    · exact a3 y hy z e
theorem riseL_rises {l : List (Nat × Nat)} (hl : ∀ y, y ∈ l → Ang y) : Rises below_ (riseL l) := by
  have h : ∀ (l out : List (Nat × Nat)), (∀ y, y ∈ l → Ang y) → (∀ y, y ∈ out → Ang y) → Rises below_ out → Rises below_ (l.foldl insR out) := by
    intro l
    induction l with
    | nil => intro out _ _ h; exact h
    | cons a r ih =>
      intro out h1 h2 h3
      rw [List.foldl_cons]
      have ha := h1 a (List.mem_cons_self ..)
      refine ih _ (fun y hy => h1 y (List.mem_cons_of_mem _ hy)) (fun y hy => ?_) (insR_rises ha h2 h3)
      rcases insR_mem.1 hy with e | e
      · rw [e]; exact ha
      · exact h2 y e
  exact h l [] hl (fun y hy => by cases hy) List.Pairwise.nil
open Go.Shelf Go.RowKit Go.Lib Go.Sort
theorem gOfBelow {a b : World} {row : Option Nat} (h : Below a.heap.size a b) : a.grownBy b row := ⟨h.os, h.tape, h.output, h.size, fun j hj _ => h.block j hj⟩
theorem encA_len (x : AngT) : (encA x).length = 3 := rfl
def ARow (w : World) (B g n cap : Nat) (d : Array AngT) : Prop := d.size = n ∧ w.ownsRow B 26 3 (.slice (some ⟨g, 0, none⟩) n cap) n (d.toList.flatMap encA)
theorem ARow.cell {w : World} {B g n cap : Nat} {d : Array AngT} (h : ARow w B g n cap d) {i : Nat} (hi : i < n) : ∀ (j : Nat) (u : Value), (encA d[i]!)[j]? = some u → w.cell? ⟨g, i * 3 + j, none⟩ = some u := fun j u hu => by
  obtain ⟨rfl, h⟩ := h
  have hj : j < 3 := by
    obtain ⟨h1, -⟩ := List.getElem?_eq_some_iff.1 hu
    rwa [encA_len] at h1
  have e := flatMap_get encA 3 encA_len d.toList i j (by simpa using hi) hj
  rw [Array.getElem_toList, ← getElem!_pos d i hi, hu] at e
  rw [World.ownsRow.cellAt h _ (by omega)]
  exact e
theorem ARow.frozen {w : World} {B g n cap : Nat} {d : Array AngT} (h : ARow w B g n cap d) (j : Nat) : w.frozen? ⟨g, j, none⟩ = false := World.ownsRow.frozenAt h.2 j
theorem ARow.grown {w w' : World} {B g n cap : Nat} {d : Array AngT} (h : ARow w B g n cap d) (hg : w.grownBy w' none) : ARow w' B g n cap d := ⟨h.1, World.ownsRow.kept h.2 hg (.inr (by simp [Value.ownBlock]))⟩
theorem ARow.drewN {w : World} {B g n cap : Nat} {d : Array AngT} (h : ARow w B g n cap d) (q : Nat) : ARow (w.drewN q) B g n cap d := h.grown ⟨rfl, rfl, rfl, Nat.le_refl _, fun _ _ _ => rfl⟩
theorem bDrewN {B : Nat} {a w : World} (h : Below B a w) (n : Nat) : Below B a (w.drewN n) := ⟨h.os, h.tape, h.output, h.size, h.block⟩
theorem ownsRow_cap {w : World} {B g cap n size : Nat} {e : TypeId} {xs : List Value} (h : w.ownsRow B e size (.slice (some ⟨g, 0, none⟩) n cap) n xs) : n ≤ cap := by
  rcases h.2 with ⟨h', -⟩ | ⟨g', cap', cur, h', hb, hg, hnc, hcm, hcs, ht⟩
  · cases h'
  · injection h' with h1 h2 h3
    omega
theorem flatMap_set {α : Type} (enc : α → List Value) (k : Nat) (hk : ∀ x, (enc x).length = k) (d : Array α) (i : Nat) (x : α) (hi : i < d.size) (xs : List Value) (hl : xs.length = d.size * k) (hin : ∀ j, j < k → xs[i * k + j]? = (enc x)[j]?) (hout : ∀ t, t < i * k ∨ i * k + k ≤ t → xs[t]? = (d.toList.flatMap enc)[t]?) : (d.setIfInBounds i x).toList.flatMap enc = xs := by
  apply List.ext_getElem?
  intro t
  have hfl : ∀ e : Array α, (e.toList.flatMap enc).length = e.size * k := fun e => by rw [flatMap_len enc k hk]; simp
  by_cases ht : t < d.size * k
  · have h0 : 0 < k := by
      rcases Nat.eq_zero_or_pos k with h | h
      · rw [h] at ht; omega
      · exact h
    have hq : t / k < d.size := (Nat.div_lt_iff_lt_mul h0).2 ht
    have e := flatMap_get enc k hk (d.setIfInBounds i x).toList (t / k) (t % k) (by simpa using hq) (Nat.mod_lt _ h0)
    have e2 := flatMap_get enc k hk d.toList (t / k) (t % k) (by simpa using hq) (Nat.mod_lt _ h0)
    have et : t / k * k + t % k = t := by rw [Nat.mul_comm]; exact Nat.div_add_mod t k
    rw [et] at e e2
    rw [e]
    by_cases hi2 : t / k = i
    · have := hin (t % k) (Nat.mod_lt _ h0)
      rw [← hi2, et] at this
      rw [this]
      simp [hi2, Array.getElem_toList]
    · rw [hout t (by
        rcases Nat.lt_or_gt_of_ne hi2 with h | h
        · left
          have h3 := (Nat.div_lt_iff_lt_mul h0).1 h
          exact h3
        · right
          have h3 : i + 1 ≤ t / k := h
          have h4 := (Nat.le_div_iff_mul_le h0).1 h3
          rw [Nat.succ_mul] at h4
          exact h4), e2]
      congr 1
      simp only [Array.getElem_toList]
      rw [Array.getElem_setIfInBounds, if_neg (fun e => hi2 e.symm)]
  · rw [List.getElem?_eq_none (by rw [hfl]; simpa using ht), List.getElem?_eq_none (by rw [hl]; omega)]
theorem ARow.set {w : World} {B g n cap : Nat} {d : Array AngT} (h : ARow w B g n cap d) {i : Nat} (hi : i < n) (x : AngT) : ARow (((w.setCell ⟨g, i * 3, none⟩ (.bool false)).setCell ⟨g, i * 3 + 1, none⟩ (.string (natS x.1.1))).setCell ⟨g, i * 3 + 2, none⟩ (.string (natS x.1.2))) B g n cap (d.setIfInBounds i x) ∧ w.grownBy (((w.setCell ⟨g, i * 3, none⟩ (.bool false)).setCell ⟨g, i * 3 + 1, none⟩ (.string (natS x.1.1))).setCell ⟨g, i * 3 + 2, none⟩ (.string (natS x.1.2))) (some g) := by
  obtain ⟨rfl, h⟩ := h
  obtain ⟨h1, g1⟩ := World.ownsRow.stored h (i * 3) (.bool false)
  obtain ⟨h2, g2⟩ := World.ownsRow.stored h1 (i * 3 + 1) (.string (natS x.1.1))
  obtain ⟨h3, g3⟩ := World.ownsRow.stored h2 (i * 3 + 2) (.string (natS x.1.2))
  refine ⟨⟨by simp, ?_⟩, (g1.trans g2).trans g3⟩
  have hl : (d.toList.flatMap encA).length = d.size * 3 := by rw [flatMap_len encA 3 encA_len]; simp
  rw [flatMap_set encA 3 encA_len d i x hi ((((d.toList.flatMap encA).set (i * 3) (.bool false)).set (i * 3 + 1) (.string (natS x.1.1))).set (i * 3 + 2) (.string (natS x.1.2))) (by simpa using hl) (fun j hj => ?_) (fun t ht => ?_)]
  · exact h3
  · have hlt : i * 3 + 2 < (d.toList.flatMap encA).length := by rw [hl]; omega
    rcases (by omega : j = 0 ∨ j = 1 ∨ j = 2) with rfl | rfl | rfl
    · rw [List.getElem?_set_ne (by omega), List.getElem?_set_ne (by omega), Nat.add_zero, List.getElem?_set_self (by omega)]; rfl
    · rw [List.getElem?_set_ne (by omega), List.getElem?_set_self (by rw [List.length_set]; omega)]; rfl
    · rw [List.getElem?_set_self (by rw [List.length_set, List.length_set]; omega)]; rfl
  · rw [List.getElem?_set_ne (by omega), List.getElem?_set_ne (by omega), List.getElem?_set_ne (by omega)]
theorem setCells_own {B g cap n size : Nat} {e : TypeId} : ∀ (vs : List Value) (o : Nat) (w : World) (xs : List Value), w.ownsRow B e size (.slice (some ⟨g, 0, none⟩) n cap) n xs → ∃ ys, (w.setCells g o vs).ownsRow B e size (.slice (some ⟨g, 0, none⟩) n cap) n ys ∧ (∀ t, t < o → ys[t]? = xs[t]?) ∧ w.grownBy (w.setCells g o vs) (some g)
  | [], _, w, xs, h => ⟨xs, h, fun _ _ => rfl, ⟨rfl, rfl, rfl, Nat.le_refl _, fun _ _ _ => rfl⟩⟩
  | v :: r, o, w, xs, h => by
    obtain ⟨h1, g1⟩ := World.ownsRow.stored h o v
    obtain ⟨ys, h2, h3, g2⟩ := setCells_own r (o + 1) _ _ h1
    refine ⟨ys, h2, fun t ht => ?_, g1.trans g2⟩
    rw [h3 t (by omega), List.getElem?_set_ne (by omega)]
theorem ownsRow_cut {w : World} {B g cap n m size : Nat} {e : TypeId} {xs : List Value} (h : w.ownsRow B e size (.slice (some ⟨g, 0, none⟩) n cap) n xs) (hm : m ≤ n) : w.ownsRow B e size (.slice (some ⟨g, 0, none⟩) m cap) m (xs.take (m * size)) := by
  have hmul : m * size ≤ n * size := Nat.mul_le_mul_right _ hm
  refine ⟨by rw [List.length_take, h.1]; omega, ?_⟩
  rcases h.2 with ⟨h', -⟩ | ⟨g', cap', cur, h', hb, hg, hnc, hcm, hcs, ht⟩
  · cases h'
  · injection h' with h1 h2 h3
    injection h1 with h1
    injection h1 with h1
    subst h1 h3
    refine .inr ⟨g, cap, cur, rfl, hb, hg, by omega, hcm, hcs, ?_⟩
    rw [← ht, List.take_take, Nat.min_eq_left hmul]
theorem flatMap_take {α : Type} (enc : α → List Value) (k : Nat) (hk : ∀ x, (enc x).length = k) : ∀ (l : List α) (m : Nat), (l.flatMap enc).take (m * k) = (l.take m).flatMap enc
  | [], m => by simp
  | x :: r, 0 => by simp
  | x :: r, m + 1 => by
    rw [List.flatMap_cons, List.take_succ_cons, List.flatMap_cons, Nat.succ_mul, Nat.add_comm, ← hk x, List.take_length_add_append, hk x, flatMap_take enc k hk r m]
theorem compactUpTo_eq (d : Array AngT) : ∀ m, m ≤ d.size → compactUpTo d m = compactL (d.toList.take m)
  | 0, _ => by simp [compactUpTo, compactL]
  | 1, h => by
    rw [compactUpTo_all d 1 (keeps_lt_one d)]
    have : d.toList.take 1 = [d[0]!] := by
      rw [List.take_one, List.head?_eq_getElem?, Array.getElem?_toList, getElem!_pos d 0 (by omega), Array.getElem?_eq_getElem (by omega)]; rfl
    rw [this]; rfl
  | m + 2, h => by
    have e : d.toList.take (m + 2) = d.toList.take m ++ [d[m]!, d[m + 1]!] := by
      rw [show m + 2 = (m + 1) + 1 from rfl, List.take_add_one, List.take_add_one, List.append_assoc, Array.getElem?_toList, Array.getElem?_toList, getElem!_pos d m (by omega), getElem!_pos d (m + 1) (by omega), Array.getElem?_eq_getElem (by omega), Array.getElem?_eq_getElem (by omega)]; rfl
    have e1 : d.toList.take (m + 1) = d.toList.take m ++ [d[m]!] := by
      rw [List.take_add_one, Array.getElem?_toList, getElem!_pos d m (by omega), Array.getElem?_eq_getElem (by omega)]; rfl
    rw [compactUpTo_succ, compactUpTo_eq d (m + 1) (by omega), e, compactL_snoc, e1]
    by_cases hk : d[m]! = d[m + 1]!
    · rw [if_pos hk, if_neg (by rw [keeps_neg (by omega) (by simpa using hk.symm)]; decide)]; simp
    · rw [if_neg hk, if_pos (keeps_pos (by simpa using fun e => hk e.symm))]
theorem run_clearA {w : World} {B g n cap : Nat} {d : Array AngT} (h : ARow w B g n cap d) (kk : Nat) (hk : kk < n) (ty : TypeId) (c : Nat) : (Builtin.clear_ #[22] ty #[.slice (some ⟨g, kk * 3, none⟩) (n - kk) c]).run Tryz.prog w = .ok (.tuple #[]) (w.setCells g (kk * 3) (Builtin.zeroCells #[.bool false, .string ⟨#[]⟩, .string ⟨#[]⟩] (n - kk)).toList) := by
  obtain ⟨rfl, h⟩ := h
  have hcell : ∀ t, t < d.size * 3 → (w.cell? ⟨g, t, none⟩).isSome = true := fun t ht => by
    rw [World.ownsRow.cellAt h t ht, List.getElem?_eq_getElem (by rw [h.1]; exact ht)]; rfl
  have hlen : (Builtin.zeroCells #[.bool false, .string ⟨#[]⟩, .string ⟨#[]⟩] (d.size - kk)).toList.length = (d.size - kk) * 3 := by simp [Builtin.zeroCells]
  have hst := run_storeCells_cells (P := Tryz.prog) g (kk * 3) (Builtin.zeroCells #[.bool false, .string ⟨#[]⟩, .string ⟨#[]⟩] (d.size - kk)).toList 0 w (fun j hj => by rw [hlen] at hj; exact hcell _ (by omega)) (fun j hj => World.ownsRow.frozenAt h _) (fun v hv => by
    simp only [Builtin.zeroCells, Array.toList_map, List.mem_map] at hv
    obtain ⟨t, -, rfl⟩ := hv
    have : t % 3 < 3 := Nat.mod_lt _ (by decide)
    show (#[Value.bool false, .string ⟨#[]⟩, .string ⟨#[]⟩][t % 3]!).oneCell' = true
    rcases (by omega : t % 3 = 0 ∨ t % 3 = 1 ∨ t % 3 = 2) with e | e | e <;> rw [e] <;> rfl)
  simp only [Nat.add_zero] at hst
  have hv : ∀ w, (zeroValue 26).run Tryz.prog w = .ok (.agg #[.bool false, .string ⟨#[]⟩, .string ⟨#[]⟩]) w := fun w => by kernel_rfl
  have ht : Tryz.prog.underlying 22 = some (.slice 26) := Tryz.underlying22
  obtain ⟨m, hm⟩ : ∃ m, d.size - kk = m + 1 := ⟨d.size - kk - 1, by omega⟩
  rw [hm] at hst ⊢
  simp [Builtin.clear_, run_underlying ht, hv, Value.cells, hst]
set_option maxRecDepth 100000 in
set_option maxHeartbeats 4000000 in
theorem lcompactA (B g cap : Nat) (d : Array AngT) (w : World) (h : w.ownsRow B 26 3 (.slice (some ⟨g, 0, none⟩) d.size cap) d.size (d.toList.flatMap encA)) (hsz : d.size ≤ 1048576) :
    Calls Tryz.prog 108 #[.slice (some ⟨g, 0, none⟩) d.size cap] w fun e w' => e = .returned (.slice (some ⟨g, 0, none⟩) (compactL d.toList).length cap) ∧ w'.ownsRow B 26 3 (.slice (some ⟨g, 0, none⟩) (compactL d.toList).length cap) (compactL d.toList).length ((compactL d.toList).flatMap encA) ∧ w.grownBy w' (some g) := by
  have hH : Hid (ARow w B g d.size cap d) := Lib.hid ⟨rfl, h⟩
  have hcap : d.size ≤ cap := ownsRow_cap h
  clear h
  have SAME : Hid (∀ W, Below w.heap.size w W → (∀ j, j < d.size → keeps d j = true) → (compactL d.toList).length = d.size ∧ W.ownsRow B 26 3 (.slice (some ⟨g, 0, none⟩) (compactL d.toList).length cap) (compactL d.toList).length ((compactL d.toList).flatMap encA)) := Lib.hid (fun W hb hall => by
    have e : compactL d.toList = d.toList := by
      have h1 := compactUpTo_eq d d.size (Nat.le_refl _)
      rw [compactUpTo_all d _ hall, range_map_get, List.take_of_length_le (by simp)] at h1
      exact h1.symm
    rw [e]
    refine ⟨by simp, ?_⟩
    rw [Array.length_toList]
    exact (hH.out.grown (gOfBelow hb)).2)
  obtain ⟨n, hn⟩ : ∃ n, n = d.size := ⟨_, rfl⟩
  by_cases h2 : n < 2
  case pos =>
    rw [← hn] at hH SAME hsz hcap ⊢
    replace hn := Lib.hid hn
    go_enter Tryz.func108, Tryz.ntmps108
    go_wp2
    go_ret
    obtain ⟨e1, e2⟩ := SAME.out w (Below.refl _ _) (fun j hj => keeps_lt_one d j (by omega))
    exact ⟨by rw [e1]; rfl, e2, gb_refl _ _⟩
  case neg =>
    rw [← hn] at hH SAME hsz hcap ⊢
    replace hn := Lib.hid hn
    go_enter Tryz.func108, Tryz.ntmps108
    go_wp2
    go_loopg [3] n (fun gg s3 wr => ∃ k : Nat, 1 ≤ k ∧ k ≤ n ∧ n - k ≤ gg ∧ s3 = .int .i64 (k : Int) ∧ Hid (Below w.heap.size w wr) ∧ Hid (∀ j, j < k → keeps d j = true))
    case atStart => exact ⟨1, Nat.le_refl _, by omega, by omega, rfl, Lib.hid (Below.refl _ _), Lib.hid (keeps_lt_one d)⟩
    case round =>
      obtain ⟨k, hk1, hk, hg, rfl, hb, A⟩ := hrel
      by_cases hlt : k < n
      case pos =>
        have hR : ARow wr B g n cap d := hH.out.grown (gOfBelow hb.out)
        have x1C := ARow.cell hR hlt
        have x0C := ARow.cell hR (show k - 1 < n by omega)
        obtain ⟨x, hx⟩ : ∃ x, x = d[k]! := ⟨_, rfl⟩
        obtain ⟨y, hy⟩ : ∃ y, y = d[k - 1]! := ⟨_, rfl⟩
        rw [← hx] at x1C
        rw [← hy] at x0C
        replace hx := Lib.hid hx
        replace hy := Lib.hid hy
        replace hR := Lib.hid hR
        have x10 : wr.cell? ⟨g, k * 3, none⟩ = some (.bool false) := x1C 0 _ rfl
        have x11 : wr.cell? ⟨g, k * 3 + 1, none⟩ = some (.string (natS x.1.1)) := x1C 1 _ rfl
        have x12 : wr.cell? ⟨g, k * 3 + 2, none⟩ = some (.string (natS x.1.2)) := x1C 2 _ rfl
        clear x1C
        have x00 : wr.cell? ⟨g, (k - 1) * 3, none⟩ = some (.bool false) := x0C 0 _ rfl
        have x01 : wr.cell? ⟨g, (k - 1) * 3 + 1, none⟩ = some (.string (natS y.1.1)) := x0C 1 _ rfl
        have x02 : wr.cell? ⟨g, (k - 1) * 3 + 2, none⟩ = some (.string (natS y.1.2)) := x0C 2 _ rfl
        clear x0C
        rcases pair_cases x.1 y.1 with ⟨e0, e1, e2⟩ | ⟨e0, e1, e2⟩ | ⟨e0, e1⟩
        case inl =>
          have hck : ¬ cap = k := by omega
          have hxy : Hid (x = y) := Lib.hid (Subtype.ext e0)
          clear e0
          go_wp2_with fail
          go_quiet (fail)
          go_wp2
          clear x10 x11 x12 x00 x01 x02 e1 e2
          obtain ⟨w0, hw0⟩ : ∃ W, W = wr.drewN nq := ⟨_, rfl⟩
          have hR0 : Hid (ARow w0 B g n cap d) := Lib.hid (by rw [hw0]; exact hR.out.drewN nq)
          have hG0 : Hid (w.grownBy w0 (some g)) := Lib.hid (by rw [hw0]; exact gOfBelow (bDrewN hb.out nq))
          rw [← hw0]
          clear hR hb hw0
          go_loopg [3, 5] n (fun gg s3 s5 wr => ∃ (kk k2 : Nat) (dk : Array AngT), s3 = .int .i64 (kk : Int) ∧ s5 = .int .i64 (k2 : Int) ∧ 1 ≤ k2 ∧ k + k2 ≤ n ∧ n - (k + k2) ≤ gg ∧ kk < k + k2 ∧ Hid (ARow wr B g n cap dk) ∧ Hid (w.grownBy wr (some g)) ∧ Hid (CompInv d (k + k2) kk dk))
          case atStart =>
            exact ⟨k, 1, d, rfl, rfl, Nat.le_refl _, by omega, by omega, by omega, hR0, hG0, Lib.hid (CompInv.start A.out (keeps_neg (by omega) (by rw [← hx.out, ← hy.out, hxy.out])))⟩
          case round =>
            clear hR0 hG0
            obtain ⟨kk, k2, dk, rfl, rfl, h1, hle, hg2, hkk, hR, hG, hI⟩ := hrel
            by_cases hlt2 : k + k2 < n
            case pos =>
              have umC := ARow.cell hR.out hlt2
              have upC := ARow.cell hR.out (show k + k2 - 1 < n by omega)
              have ukC := ARow.cell hR.out (show kk < n by omega)
              rw [hI.out.high (k + k2) (by omega), Nat.add_mul] at umC
              rw [hI.out.high (k + k2 - 1) (by omega), show k + k2 - 1 = k + (k2 - 1) by omega, Nat.add_mul] at upC
              have fk0 := hR.out.frozen (kk * 3)
              have fk1 := hR.out.frozen (kk * 3 + 1)
              have fk2 := hR.out.frozen (kk * 3 + 2)
              obtain ⟨u, hu⟩ : ∃ u, u = d[k + k2]! := ⟨_, rfl⟩
              obtain ⟨v, hv⟩ : ∃ v, v = d[k + (k2 - 1)]! := ⟨_, rfl⟩
              obtain ⟨ol, hol⟩ : ∃ v, v = dk[kk]! := ⟨_, rfl⟩
              rw [← hu] at umC
              rw [← hv] at upC
              rw [← hol] at ukC
              replace hu := Lib.hid hu
              replace hv : Hid (v = d[k + k2 - 1]!) := Lib.hid (by rw [hv, show k + k2 - 1 = k + (k2 - 1) by omega])
              clear hol
              have um0 : wr.cell? ⟨g, k * 3 + k2 * 3, none⟩ = some (.bool false) := umC 0 _ rfl
              have um1 : wr.cell? ⟨g, k * 3 + k2 * 3 + 1, none⟩ = some (.string (natS u.1.1)) := umC 1 _ rfl
              have um2 : wr.cell? ⟨g, k * 3 + k2 * 3 + 2, none⟩ = some (.string (natS u.1.2)) := umC 2 _ rfl
              clear umC
              have up0 : wr.cell? ⟨g, k * 3 + (k2 - 1) * 3, none⟩ = some (.bool false) := upC 0 _ rfl
              have up1 : wr.cell? ⟨g, k * 3 + (k2 - 1) * 3 + 1, none⟩ = some (.string (natS v.1.1)) := upC 1 _ rfl
              have up2 : wr.cell? ⟨g, k * 3 + (k2 - 1) * 3 + 2, none⟩ = some (.string (natS v.1.2)) := upC 2 _ rfl
              clear upC
              have uk0 : wr.cell? ⟨g, kk * 3, none⟩ = some (.bool false) := ukC 0 _ rfl
              have uk1 : wr.cell? ⟨g, kk * 3 + 1, none⟩ = some (.string (natS ol.1.1)) := ukC 1 _ rfl
              have uk2 : wr.cell? ⟨g, kk * 3 + 2, none⟩ = some (.string (natS ol.1.2)) := ukC 2 _ rfl
              clear ukC
              rcases pair_cases u.1 v.1 with ⟨e0, e1, e2⟩ | ⟨e0, e1, e2⟩ | ⟨e0, e1⟩
              case inl =>
                have huv : Hid (u = v) := Lib.hid (Subtype.ext e0)
                clear e0
                go_wp2_with fail
                go_quiet (fail)
                go_wp2
                go_roundg (n - (k + (k2 + 1)))
                case measure => omega
                case rel => exact ⟨kk, k2 + 1, dk, rfl, by go_num, by omega, by omega, Nat.le_refl _, by omega, Lib.hid (hR.out.drewN nq), Lib.hid (gb_drewN hG.out nq), Lib.hid (hI.out.skip (keeps_neg (by omega) (by rw [← hu.out, ← hv.out, huv.out])))⟩
              all_goals
                have huv : Hid (u ≠ v) := Lib.hid (fun e => e0 (congrArg Subtype.val e))
                clear e0
                go_wp2_with fail
                go_quiet (fail)
                replace um0 : (wr.drewN nq).cell? _ = _ := um0
                replace uk0 : (wr.drewN nq).cell? _ = _ := uk0
                replace fk0 : (wr.drewN nq).frozen? _ = _ := fk0
                replace um1 : (wr.drewN nq).cell? _ = _ := um1
                replace uk1 : (wr.drewN nq).cell? _ = _ := uk1
                replace fk1 : (wr.drewN nq).frozen? _ = _ := fk1
                replace um2 : (wr.drewN nq).cell? _ = _ := um2
                replace uk2 : (wr.drewN nq).cell? _ = _ := uk2
                replace fk2 : (wr.drewN nq).frozen? _ = _ := fk2
                go_wp2
                go_roundg (n - (k + (k2 + 1)))
                case measure => omega
                case rel =>
                  obtain ⟨q1, q2⟩ := (hR.out.drewN nq).set (show kk < n by omega) u
                  exact ⟨kk + 1, k2 + 1, dk.setIfInBounds kk u, by go_num, by go_num, by omega, by omega, Nat.le_refl _, by omega, Lib.hid q1, Lib.hid (gb_trans (gb_drewN hG.out nq) q2), Lib.hid (by have := hI.out.keep (by rw [← hn.out]; exact hlt2) (keeps_pos (by rw [← hu.out, ← hv.out]; exact huv.out)); rwa [← hu.out] at this)⟩
            case neg =>
              have hend : k + k2 = n := by omega
              have hcl : ∀ ty, (Builtin.clear_ #[22] ty #[.slice (some ⟨g, kk * 3, none⟩) (n - kk) (cap - kk)]).run Tryz.prog wr = .ok (.tuple #[]) (wr.setCells g (kk * 3) (Builtin.zeroCells #[.bool false, .string ⟨#[]⟩, .string ⟨#[]⟩] (n - kk)).toList) := fun ty => run_clearA hR.out kk (by omega) ty (cap - kk)
              have hFIN : Hid (kk = (compactL d.toList).length ∧ (wr.setCells g (kk * 3) (Builtin.zeroCells #[.bool false, .string ⟨#[]⟩, .string ⟨#[]⟩] (n - kk)).toList).ownsRow B 26 3 (.slice (some ⟨g, 0, none⟩) kk cap) kk ((compactL d.toList).flatMap encA) ∧ w.grownBy (wr.setCells g (kk * 3) (Builtin.zeroCells #[.bool false, .string ⟨#[]⟩, .string ⟨#[]⟩] (n - kk)).toList) (some g)) := Lib.hid (by
                have hI2 := hI.out
                rw [hend, hn.out] at hI2
                have ec : compactUpTo d d.size = compactL d.toList := by
                  have h1 := compactUpTo_eq d d.size (Nat.le_refl _)
                  rwa [List.take_of_length_le (by simp)] at h1
                have hlen := hI2.len
                rw [ec] at hlen
                obtain ⟨ys, y1, y2, y3⟩ := setCells_own (Builtin.zeroCells #[.bool false, .string ⟨#[]⟩, .string ⟨#[]⟩] (n - kk)).toList (kk * 3) wr _ hR.out.2
                refine ⟨hlen.symm, ?_, gb_trans hG.out y3⟩
                have y4 := ownsRow_cut y1 (show kk ≤ n by omega)
                have hk0 : kk < d.size := by rw [← hn.out]; omega
                have e : ys.take (kk * 3) = (compactL d.toList).flatMap encA := by
                  have e1 : (dk.toList.take kk).flatMap encA = (compactL d.toList).flatMap encA := by
                    congr 1
                    apply List.ext_getElem?
                    intro j
                    rw [List.getElem?_take]
                    split
                    · rename_i hj
                      have := hI2.low j hj
                      rw [ec] at this
                      rw [this, Array.getElem?_toList, getElem!_pos dk j (by have := hI2.size; omega), Array.getElem?_eq_getElem]
                    · rw [List.getElem?_eq_none (by omega)]
                  rw [← e1, ← flatMap_take encA 3 encA_len]
                  apply List.ext_getElem?
                  intro j
                  rw [List.getElem?_take, List.getElem?_take]
                  split
                  · rename_i hj
                    exact y2 j hj
                  · rfl
                rwa [e] at y4)
              clear hR hG hI
              go_wp2
              go_ret
              exact ⟨by rw [← hFIN.out.1]; rfl, by rw [← hFIN.out.1]; exact hFIN.out.2.1, hFIN.out.2.2⟩
        all_goals
          have hxy : Hid (x ≠ y) := Lib.hid (fun e => e0 (congrArg Subtype.val e))
          clear e0
          go_wp2_with fail
          go_quiet (fail)
          go_wp2
          go_roundg (n - (k + 1))
          case measure => omega
          case rel =>
            refine ⟨k + 1, by omega, by omega, Nat.le_refl _, by go_num, Lib.hid (bDrewN hb.out nq), Lib.hid (fun j hj => ?_)⟩
            by_cases e : j = k
            · subst e
              exact keeps_pos (by rw [← hx.out, ← hy.out]; exact hxy.out)
            · exact A.out j (by omega)
      case neg =>
        obtain rfl : k = n := by omega
        clear hg
        go_wp2
        go_ret
        obtain ⟨e1, e2⟩ := SAME.out wr hb.out A.out
        exact ⟨by rw [e1]; rfl, e2, gOfBelow hb.out⟩
open Go.Shelf Go.RowKit Go.Lib Go.Sort
set_option maxRecDepth 100000 in
set_option maxHeartbeats 1000000 in
theorem lins_nilA (c : Nat) (u : Value) (w : World) : Calls Tryz.prog 186 #[.slice none 0 c, .int .i64 0, .int .i64 0, u] w fun e w' => e = .returned (.tuple #[]) ∧ Below w.heap.size w w' := by
  go_enter Tryz.func186, Tryz.ntmps186
  go_wp2_with fail
  refine wp_loop_rounds 1 ?_
  rw [rounds_succ]
  go_wp2_with fail
  go_end0
  exact ⟨rfl, Below.refl _ _⟩
set_option maxRecDepth 100000 in
set_option maxHeartbeats 1000000 in
theorem lpdq_nilA (c : Nat) (x : Int) (u : Value) (w : World) : Calls Tryz.prog 153 #[.slice none 0 c, .int .i64 0, .int .i64 0, .int .i64 x, u] w fun e w' => e = .returned (.tuple #[]) ∧ Below w.heap.size w w' := by
  go_enter Tryz.func153, Tryz.ntmps153
  go_wp2_with fail
  refine wp_loop_rounds 1 ?_
  rw [rounds_succ]
  go_wp2_with fail
  refine (lins_nilA c u w).mono ?_
  rintro e w1 ⟨rfl, hb⟩
  go_wp2_with fail
  refine bodyPost_ret (results_none rfl _ _ _) rfl ?_
  exact ⟨rfl, hb⟩
set_option maxRecDepth 100000 in
set_option maxHeartbeats 1000000 in
theorem lins_nilL (c : Nat) (u : Value) (w : World) : Calls Tryz.prog 176 #[.slice none 0 c, .int .i64 0, .int .i64 0, u] w fun e w' => e = .returned (.tuple #[]) ∧ Below w.heap.size w w' := by
  go_enter Tryz.func176, Tryz.ntmps176
  go_wp2_with fail
  refine wp_loop_rounds 1 ?_
  rw [rounds_succ]
  go_wp2_with fail
  go_end0
  exact ⟨rfl, Below.refl _ _⟩
set_option maxRecDepth 100000 in
set_option maxHeartbeats 1000000 in
theorem lpdq_nilL (c : Nat) (x : Int) (u : Value) (w : World) : Calls Tryz.prog 151 #[.slice none 0 c, .int .i64 0, .int .i64 0, .int .i64 x, u] w fun e w' => e = .returned (.tuple #[]) ∧ Below w.heap.size w w' := by
  go_enter Tryz.func151, Tryz.ntmps151
  go_wp2_with fail
  refine wp_loop_rounds 1 ?_
  rw [rounds_succ]
  go_wp2_with fail
  refine (lins_nilL c u w).mono ?_
  rintro e w1 ⟨rfl, hb⟩
  go_wp2_with fail
  refine bodyPost_ret (results_none rfl _ _ _) rfl ?_
  exact ⟨rfl, hb⟩
set_option maxRecDepth 100000 in
set_option maxHeartbeats 1000000 in
theorem lsort_nilA (c : Nat) (u : Value) (w : World) : Calls Tryz.prog 107 #[.slice none 0 c, u] w fun e w' => e = .returned (.tuple #[]) ∧ Below w.heap.size w w' := by
  go_enter Tryz.func107, Tryz.ntmps107
  go_wp2_with fail
  refine (Tryz.bits_Len 0 _ (by decide) (by decide)).mono ?_
  rintro e w1 ⟨rfl, rfl⟩
  go_wp2_with fail
  refine (lpdq_nilA c _ u _).mono ?_
  rintro e w1 ⟨rfl, hb⟩
  go_wp2_with fail
  go_end0
  exact ⟨rfl, hb⟩
set_option maxRecDepth 100000 in
set_option maxHeartbeats 1000000 in
theorem lsort_nilL (c : Nat) (u : Value) (w : World) : Calls Tryz.prog 104 #[.slice none 0 c, u] w fun e w' => e = .returned (.tuple #[]) ∧ Below w.heap.size w w' := by
  go_enter Tryz.func104, Tryz.ntmps104
  go_wp2_with fail
  refine (Tryz.bits_Len 0 _ (by decide) (by decide)).mono ?_
  rintro e w1 ⟨rfl, rfl⟩
  go_wp2_with fail
  refine (lpdq_nilL c _ u _).mono ?_
  rintro e w1 ⟨rfl, hb⟩
  go_wp2_with fail
  go_end0
  exact ⟨rfl, hb⟩
set_option maxRecDepth 100000 in
set_option maxHeartbeats 1000000 in
theorem lcompact_nilA (c : Nat) (w : World) : Calls Tryz.prog 108 #[.slice none 0 c] w (RetVal (.slice none 0 c) w) := by
  go_enter Tryz.func108, Tryz.ntmps108
  go_wp2_with fail
  go_ret
  exact ⟨rfl, Below.refl _ _⟩
open Go.Shelf Go.RowKit Go.Lib Go.Sort
abbrev PT := Nat × Nat
def encP (p : PT) : List Value := [.bool false, .string (natS p.1), .string (natS p.2)]
theorem encP_len (p : PT) : (encP p).length = 3 := rfl
def RdP (w : World) (v : Value) (L : List PT) : Prop := ∃ A c, v = .slice A L.length c ∧ (A = none → c = 0) ∧ (∀ ad, A = some ad → ∀ (j : Nat) (u : Value), (L.flatMap encP)[j]? = some u → w.cell? (ad.add j) = some u) ∧ (0 < L.length → A.isSome = true)
theorem attach_flat (L : List PT) (hL : ∀ p, p ∈ L → Ang p) : (L.attachWith Ang hL).flatMap encA = L.flatMap encP := by
  induction L with
  | nil => rfl
  | cons a r ih =>
    rw [List.attachWith_cons, List.flatMap_cons, List.flatMap_cons, ih]
    rfl
theorem val_flat (L : List AngT) : L.flatMap encA = (L.map Subtype.val).flatMap encP := by
  rw [List.flatMap_map]; rfl
theorem sorted_pairwise {d : Array AngT} (h : SortedIn (ltOf cfA) 0 d.size d) : d.toList.Pairwise (fun x y => ¬ below_ y.1 x.1) := by
  rw [List.pairwise_iff_getElem]
  intro i j hi hj hij hlt
  have := h i j (Nat.zero_le _) hij (by simpa using hj)
  rw [getElem!_pos d i (by simpa using hi), getElem!_pos d j (by simpa using hj)] at this
  simp only [Array.getElem_toList] at hlt
  exact (of_decide_eq_false (p := cmpP d[j].1 d[i].1 < 0) this) hlt
theorem once_rise (L : List PT) (hL : ∀ p, p ∈ L → Ang p) (d' : Array AngT) (hs : d'.size = L.length) (hp : PermIn 0 L.length (L.attachWith Ang hL).toArray d') (hsort : SortedIn (ltOf cfA) 0 L.length d') : (compactL d'.toList).map Subtype.val = riseL L := by
  rw [← hs] at hsort
  have hmem : ∀ x : AngT, x ∈ d'.toList ↔ x ∈ L.attachWith Ang hL := by
    intro x
    have h := hp.2.2
    have e1 : d'.extract 0 L.length = d' := by rw [← hs]; simp
    have e2 : (L.attachWith Ang hL).toArray.extract 0 L.length = (L.attachWith Ang hL).toArray := by
      have : L.length = (L.attachWith Ang hL).toArray.size := by simp
      rw [this]; exact Array.extract_size
    rw [e1, e2] at h
    exact h.mem_iff
  have hr1 : Rises (fun x y : AngT => below_ x.1 y.1) (compactL d'.toList) := by
    refine compactL_rises (lt := fun x y : AngT => below_ x.1 y.1) (fun x y h => ?_) (fun x y z h1 h2 => cmpP_trans y.2.pos z.2.pos h1 h2) (sorted_pairwise hsort)
    rcases cmpP_bd x.1 y.1 with e | e | e
    · exact .inr (by unfold below_; omega)
    · exact .inl (Subtype.ext ((cmpP_eq x.2 y.2).1 e))
    · exact absurd (cmpP_anti.2 (by omega)) h
  refine rises_ext (lt := fun x y => Ang x ∧ Ang y ∧ below_ x y) (fun x h => below_irr x h.2.2) (fun x y z h1 h2 => ⟨h1.1, h2.2.1, cmpP_trans h1.2.1.pos h2.2.1.pos h1.2.2 h2.2.2⟩) ?_ ?_ (fun x => ?_)
  · exact List.pairwise_map.2 (hr1.imp (fun {a b} h => ⟨a.2, b.2, h⟩))
  · have h := riseL_rises hL
    have hm : ∀ y, y ∈ riseL L → Ang y := fun y hy => hL y (riseL_mem.1 hy)
    exact List.Pairwise.imp_of_mem (fun {a b} ha hb h => ⟨hm a ha, hm b hb, h⟩) h
  · rw [riseL_mem, List.mem_map]
    constructor
    · rintro ⟨y, hy, rfl⟩
      have := (hmem y).1 (mem_compactL.1 hy)
      rw [List.mem_attachWith] at this
      exact this
    · intro hx
      exact ⟨⟨x, hL x hx⟩, mem_compactL.2 ((hmem _).2 (by rw [List.mem_attachWith]; exact hx)), rfl⟩
set_option maxRecDepth 100000 in
set_option maxHeartbeats 1000000 in
theorem lonce_any (v : Value) (L : List PT) (w : World) (hv : RdP w v L) (hL : ∀ p, p ∈ L → Ang p) (hn : L.length ≤ 1048576) :
    Calls Tryz.prog 61 #[v] w fun e w' => ∃ v', e = .returned v' ∧ Hid (w'.ownsRow w.heap.size 26 3 v' (riseL L).length ((riseL L).flatMap encP)) ∧ Hid (Below w.heap.size w w') := by
  obtain ⟨A, c, rfl, hc, hcells, hsome⟩ := hv
  have hClone : Hid (Calls Tryz.prog 106 #[.slice A L.length c] w fun e w' => ∃ v', e = .returned v' ∧ Hid (w'.ownsRow w.heap.size 26 3 v' L.length (L.flatMap encP)) ∧ Hid (Below w.heap.size w w')) := Lib.hid (by
    rcases A with _ | ad
    · have h0 : L = [] := by
        rcases L with _ | ⟨a, r⟩
        · rfl
        · exact absurd (hsome (by simp)) (by simp)
      subst h0
      refine (lcloneR_nil _ c w).mono ?_
      rintro e w' ⟨rfl, hb⟩
      exact ⟨_, rfl, Lib.hid (World.ownsRow_nil _ _ _ _), Lib.hid hb⟩
    · exact lcloneR ad L.length c (L.flatMap encP) w (flatMap_len encP 3 encP_len L) (hcells ad rfl) (fun u hu => by
        obtain ⟨p, -, hp⟩ := List.mem_flatMap.1 hu
        simp only [encP, List.mem_cons, List.not_mem_nil, or_false] at hp
        rcases hp with rfl | rfl | rfl <;> rfl) hn)
  have hRest : Hid (∀ (W : World) (v : Value), W.ownsRow w.heap.size 26 3 v L.length (L.flatMap encP) → Below w.heap.size w W →
      Calls Tryz.prog 107 #[v, .func (.func 65) #[] #[]] W fun e W' => e = .returned (.tuple #[]) ∧ Hid (Below w.heap.size w W') ∧ Hid (Calls Tryz.prog 108 #[v] W' fun e w' => ∃ v', e = .returned v' ∧ Hid (w'.ownsRow w.heap.size 26 3 v' (riseL L).length ((riseL L).flatMap encP)) ∧ Hid (Below w.heap.size w w'))) := Lib.hid (by
    intro W v hown hb
    rcases hown.2 with ⟨rfl, h0⟩ | ⟨g, cap, cur, rfl, hbg, -⟩
    · have h0' : L = [] := List.eq_nil_of_length_eq_zero h0
      subst h0'
      refine (lsort_nilA 0 _ W).mono ?_
      rintro e W' ⟨rfl, hb2⟩
      have hb3 := hb.trans (hb2.mono hb.size)
      refine ⟨rfl, Lib.hid hb3, Lib.hid ((lcompact_nilA 0 W').mono ?_)⟩
      rintro e w' ⟨rfl, hb4⟩
      exact ⟨_, rfl, Lib.hid (World.ownsRow_nil _ _ _ _), Lib.hid (hb3.trans (hb4.mono hb3.size))⟩
    · obtain ⟨d, hd⟩ : ∃ d : Array AngT, d = (L.attachWith Ang hL).toArray := ⟨_, rfl⟩
      have hsz : d.size = L.length := by rw [hd]; simp
      have hflat : L.flatMap encP = d.toList.flatMap encA := by rw [hd]; exact (attach_flat L hL).symm
      have hbs := hb.size
      rw [hflat, ← hsz] at hown
      rw [← hsz]
      refine (lsortA_own w.heap.size g cap d W hown (by omega)).mono ?_
      rintro e W' ⟨rfl, d', hs', hp, hsort, hown', hg⟩
      have hb3 : Below w.heap.size w W' := hb.grown hg.out hbs (fun k hk => by injection hk with hk; omega)
      refine ⟨rfl, Lib.hid hb3, Lib.hid ?_⟩
      rw [← hs'] at hown'
      rw [← hs']
      refine (lcompactA w.heap.size g cap d' W' hown'.out (by omega)).mono ?_
      rintro e w' ⟨rfl, hown2, hg2⟩
      have hb3s := hb3.size
      have hR : (compactL d'.toList).map Subtype.val = riseL L := once_rise L hL d' (by rw [hs', hsz]) (by rw [← hd, ← hsz]; exact hp) (by rw [← hsz]; exact hsort)
      refine ⟨_, rfl, Lib.hid ?_, Lib.hid (hb3.grown hg2 hb3s (fun k hk => by injection hk with hk; omega))⟩
      rw [← hR, List.length_map, ← val_flat]
      exact hown2)
  clear hcells hsome hc hL
  go_enter Tryz.func61, Tryz.ntmps61
  go_wp2_with fail
  refine hClone.out.mono ?_
  rintro e w1 ⟨v1, rfl, hown, hb⟩
  clear hClone
  have hS := Lib.hid (hRest.out w1 v1 hown.out hb.out)
  clear hRest hown hb
  go_wp2_with fail
  refine hS.out.mono ?_
  rintro e w2 ⟨rfl, hb, hC⟩
  clear hS
  go_wp2_with fail
  refine hC.out.mono ?_
  rintro e w3 ⟨v3, rfl, hown, hb3⟩
  clear hC hb
  go_wp2_with fail
  go_ret
  exact ⟨_, rfl, hown, hb3⟩
end Go.Proofs.YtoaggmegmgdgbaaGreat
