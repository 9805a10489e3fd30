/- From the sort's world to rows of one's own. · slices.Clone of angles. · The sort's cells as a list. · slices.SortFunc of angles in a row of one's own. · slices.SortFunc of leaves in a row of one's own. -/
import Derived.Test.YtoaggmegmgdgbaaOnceB
namespace Go.Proofs.Ytoaggmegmgdgbaa
open Go.Shelf Go.RowKit Go.Lib Go.Sort

/-- The sort turns one block alone. -/
theorem sortWorldK_grownBy {α : Type} [Inhabited α] (enc : α → List Value) (k : Nat) (w : World) (blk off m : Nat) (d : Array α) (os : Array Obj) : w.grownBy (sortWorldK enc k w blk off m d os) (some blk) where
  os := rfl
  tape := rfl
  output := rfl
  size := by simp [sortWorldK, grow, putRowK, putRow, mapBlock, Sort.ahead]
  block i hi hne := by
    have hne' : blk ≠ i := fun e => hne (by rw [e])
    simp [sortWorldK, grow, putRowK, putRow, mapBlock, Sort.ahead, Array.getElem?_append, hi, Array.getElem_modify, hne']
theorem sortWorldK_block {α : Type} [Inhabited α] {enc : α → List Value} {k : Nat} {w : World} {blk off m : Nat} {d : Array α} {os : Array Obj} {cur : Array Value} {T : TypeId} {fz : Nat × Nat} (h : w.heap[blk]? = some (.cells cur T fz)) : (sortWorldK enc k w blk off m d os).heap[blk]? = some (.cells (putCells id off (flatK enc k d) cur) T fz) := by
  have hi : blk < w.heap.size := by
    rcases Nat.lt_or_ge blk w.heap.size with h2 | h2
    · exact h2
    · rw [Array.getElem?_eq_none h2] at h; cases h
  have hg : w.heap[blk] = .cells cur T fz := by
    rw [Array.getElem?_eq_getElem hi] at h
    exact Option.some.inj h
  simp [sortWorldK, grow, putRowK, putRow, mapBlock, Sort.ahead, Array.getElem?_append, hi, Array.getElem_modify, hg, onCells]
end Go.Proofs.Ytoaggmegmgdgbaa

namespace Go.Proofs.Ytoaggmegmgdgbaa
open Go.RowKit Go.Sort

theorem info_ratR : (Try.prog.info? 25).map (fun i => (i.zero, i.size, i.bytes)) = some (some (.agg #[.bool false, .string ⟨#[]⟩, .string ⟨#[]⟩]), 3, 40) := by kernel_rfl
set_option maxRecDepth 100000 in
set_option maxHeartbeats 1000000 in
/-- slices.Clone of no slice. -/
theorem lcloneR_nil (n c : Nat) (w : World) : Calls Try.prog 45 #[.slice none n c] w (RetVal (.slice none 0 0) w) := by
  have q : ∀ (w : World) (a : Option Addr) (n c n' c' : Nat), (binOp .eql 41 (.slice a n c) (.slice none n' c')).run Try.prog w = .ok (.bool a.isNone) w := fun w a n c n' c' => Lib.run_eql_slice_nil w _ _ a n c n' c' Try.underlying41
  go_enter Try.func45, Try.ntmps45
  go_wp2_with fail
  go_ret
  exact ⟨rfl, Below.refl _ _⟩
set_option maxRecDepth 100000 in
set_option maxHeartbeats 1000000 in
/-- slices.Clone of angles' cells. -/
theorem lcloneR (ad : Addr) (n c : Nat) (xs : List Value) (w : World) (hx : xs.length = n * 3) (hc : ∀ (j : Nat) (u : Value), xs[j]? = some u → w.cell? (ad.add j) = some u) (h1 : ∀ u ∈ xs, u.oneCell' = true) (hn : n ≤ 1048576) :
    Calls Try.prog 45 #[.slice (some ad) n c] w fun e w' => ∃ v', e = .returned v' ∧ Hid (w'.ownsRow w.heap.size 25 3 v' n xs) ∧ Hid (Below w.heap.size w w') := by
  obtain ⟨i0, hi, hz0, hz1, hz2⟩ := info_parts info_ratR
  have hX := Lib.hid hx
  have hC := Lib.hid (fun (W : World) (hb : Below w.heap.size w W) (j : Nat) (u : Value) (h : xs[j]? = some u) => show W.cell? (ad.add j) = some u by rw [hb.cell (block_lt_of_cell (hc j u h))]; exact hc j u h)
  have hO := Lib.hid h1
  have h0 := Lib.hid (World.ownsRow_made (base := w.heap.size) (e := 25) (size := 3) w #[] 0 (Nat.le_refl _) (Nat.zero_le _) rfl)
  have hB := Lib.hid ((Below.refl w.heap.size w).alloc (Nat.le_refl _) (.cells #[] 25))
  clear hx hc h1
  have q : ∀ (w : World) (a : Option Addr) (n c n' c' : Nat), (binOp .eql 41 (.slice a n c) (.slice none n' c')).run Try.prog w = .ok (.bool a.isNone) w := fun w a n c n' c' => Lib.run_eql_slice_nil w _ _ a n c n' c' Try.underlying41
  go_enter Try.func45, Try.ntmps45
  go_wp2_with (at_builtin; refine wpList_append_own _ rfl _ _ 41 rfl w.heap.size 25 i0 (.agg #[.bool false, .string ⟨#[]⟩, .string ⟨#[]⟩]) 3 40 Try.underlying41 hi hz0 hz1 hz2 rfl (by decide) _ _ _ rfl h0.out ad n c xs rfl hX.out (hC.out _ hB.out) hO.out (by unfold maxLen; omega) (by omega) (by simp) ?_)
  intro v' w3 hown' hgrow _
  have hB3 := Lib.hid (hB.out.grown hgrow (by simp) (fun k hk => by
    simp only [Value.ownBlock, Option.some.injEq] at hk
    omega))
  replace hown' := Lib.hid hown'
  clear hgrow h0 hC hO hX hB
  go_wp2_with fail
  go_ret
  exact ⟨_, rfl, by simpa using hown', hB3⟩
end Go.Proofs.Ytoaggmegmgdgbaa

namespace Go.Proofs.Ytoaggmegmgdgbaa
open Go.Shelf Go.RowKit Go.Lib Go.Sort

theorem flatMap_get {α : Type} (enc : α → List Value) (k : Nat) (hk : ∀ x, (enc x).length = k) (L : List α) (i j : Nat) (hi : i < L.length) (hj : j < k) : (L.flatMap enc)[i * k + j]? = (enc L[i])[j]? := by
  induction L generalizing i with
  | nil => simp at hi
  | cons a r ih =>
    rw [List.flatMap_cons]
    cases i with
    | zero =>
      rw [Nat.zero_mul, Nat.zero_add, List.getElem?_append_left (by rw [hk]; exact hj)]
      rfl
    | succ i =>
      have hi2 : i < r.length := by simpa using hi
      have e : (i + 1) * k + j = k + (i * k + j) := by rw [Nat.succ_mul]; omega
      rw [e, List.getElem?_append_right (by rw [hk]; omega), hk, Nat.add_sub_cancel_left, ih i hi2]
      rfl
theorem flatMap_len {α : Type} (enc : α → List Value) (k : Nat) (hk : ∀ x, (enc x).length = k) (L : List α) : (L.flatMap enc).length = L.length * k := by
  induction L with
  | nil => simp
  | cons a r ih => rw [List.flatMap_cons, List.length_append, hk, ih, List.length_cons, Nat.succ_mul, Nat.add_comm]
/-- The cells behind the sort begin with the sorted elements' cells. -/
theorem putCells_take {α : Type} [Inhabited α] (enc : α → List Value) (k : Nat) (hk : ∀ x, (enc x).length = k) (h0 : 0 < k) (d : Array α) (cur : Array Value) (hs : d.size * k ≤ cur.size) : (putCells id 0 (flatK enc k d) cur).toList.take (d.size * k) = d.toList.flatMap enc := by
  apply List.ext_getElem?
  intro t
  by_cases ht : t < d.size * k
  · have hq : t / k < d.size := (Nat.div_lt_iff_lt_mul h0).2 ht
    have hm : t % k < k := Nat.mod_lt _ h0
    have e1 := flatMap_get enc k hk d.toList (t / k) (t % k) (by simpa using hq) hm
    rw [Nat.mul_comm (t / k) k, Nat.div_add_mod] at e1
    rw [e1, List.getElem?_take, if_pos ht, Array.getElem?_toList]
    have hc : t < cur.size := by omega
    unfold putCells
    rw [Array.getElem?_mapIdx, Array.getElem?_eq_getElem hc]
    have h2 : (0 ≤ t ∧ t < 0 + (flatK enc k d).size) := ⟨Nat.zero_le _, by rw [size_flatK]; omega⟩
    simp only [Option.map_some, if_pos h2, Nat.sub_zero, id]
    rw [get_flatK enc k d t ht, getElem!_pos d _ hq, Array.getElem_toList]
    rw [getElem!_pos _ _ (by rw [hk]; exact hm)]
    exact (List.getElem?_eq_getElem _).symm
  · rw [List.getElem?_take, if_neg ht, List.getElem?_eq_none (by rw [flatMap_len enc k hk]; simpa using ht)]
end Go.Proofs.Ytoaggmegmgdgbaa

namespace Go.Proofs.Ytoaggmegmgdgbaa
open Go.Shelf Go.RowKit Go.Lib Go.Sort

theorem lsortA_own (B g cap : Nat) (d : Array AngT) (w : World) (h : w.ownsRow B 25 3 (.slice (some ⟨g, 0, none⟩) d.size cap) d.size (d.toList.flatMap encA)) (hsz : d.size < 4611686018427387904) :
    Calls Try.prog 46 #[.slice (some ⟨g, 0, none⟩) d.size cap, .func (.func 31) #[] #[]] w fun e w' => e = .returned (.tuple #[]) ∧ ∃ d', d'.size = d.size ∧ PermIn 0 d.size d d' ∧ SortedIn (ltOf cfA) 0 d.size d' ∧ Hid (w'.ownsRow B 25 3 (.slice (some ⟨g, 0, none⟩) d.size cap) d.size (d'.toList.flatMap encA)) ∧ Hid (w.grownBy w' (some g)) := by
  rcases h.2 with ⟨h0, -⟩ | ⟨g', cap', cur, hv, hb, hg, hn, hm, hc, ht⟩
  · cases h0
  · injection hv with h1 h2 h3
    injection h1 with h1
    injection h1 with h1
    subst h1 h3
    have hlt : g < w.heap.size := by
      rcases Nat.lt_or_ge g w.heap.size with h2 | h2
      · exact h2
      · rw [Array.getElem?_eq_none h2] at hg; cases hg
    have hH : HoldsK encA 3 w g 0 d := by
      intro j hj
      rw [size_flatK] at hj
      have hq : j / 3 < d.size := (Nat.div_lt_iff_lt_mul (by decide)).2 hj
      have e1 := flatMap_get encA 3 (fun _ => rfl) d.toList (j / 3) (j % 3) (by simpa using hq) (Nat.mod_lt _ (by decide))
      rw [Nat.mul_comm (j / 3) 3, Nat.div_add_mod, Array.getElem_toList] at e1
      have e2 : (d.toList.flatMap encA)[j]? = some (flatK encA 3 d)[j]! := by
        rw [e1, get_flatK encA 3 d j hj, getElem!_pos d _ hq, getElem!_pos (encA d[j / 3]) _ (Nat.mod_lt _ (by decide : 0 < 3))]
        exact List.getElem?_eq_getElem _
      have e3 := World.ownsRow.cells h (g := g) rfl j _ e2
      rw [addr0_add] at e3
      refine ⟨by rw [Nat.zero_add]; exact e3, ?_⟩
      simp [World.frozen?, hg]
    refine (lsortA g 0 cap d w hH hlt hsz).mono ?_
    rintro e w' ⟨rfl, d', n, os, hp, hs, rfl⟩
    have hs' : d'.size = d.size := hp.1
    refine ⟨rfl, d', hs', hp, hs, Lib.hid ?_, Lib.hid (sortWorldK_grownBy encA 3 w g 0 n d' os)⟩
    refine ⟨by rw [flatMap_len encA 3 (fun _ => rfl)]; simp [hs'], .inr ⟨g, cap, _, rfl, hb, sortWorldK_block hg, hn, hm, by simp [putCells, hc], ?_⟩⟩
    have := putCells_take encA 3 (fun _ => rfl) (by decide) d' cur (by rw [hs', hc]; exact Nat.mul_le_mul_right _ hn)
    rw [hs'] at this
    exact this
end Go.Proofs.Ytoaggmegmgdgbaa

namespace Go.Proofs.Ytoaggmegmgdgbaa
open Go.Shelf Go.RowKit Go.Lib Go.Sort

end Go.Proofs.Ytoaggmegmgdgbaa
