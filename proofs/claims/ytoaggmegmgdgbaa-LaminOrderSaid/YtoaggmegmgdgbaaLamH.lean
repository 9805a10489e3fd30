/- slices.Insert of one leaf: at the end. -/
import Derived.Test.YtoaggmegmgdgbaaLamG
namespace Go.Proofs.Ytoaggmegmgdgbaa
open Go.RowKit Go.Sort

theorem info_leafI : (Try.prog.info? 27).map (fun i => (i.zero, i.size, i.bytes)) = some (some (.agg #[.bool false, .string ⟨#[]⟩, .string ⟨#[]⟩, .bool false, .string ⟨#[]⟩, .string ⟨#[]⟩]), 6, 80) := by kernel_rfl
theorem flatL_snoc (L : List Lf) (l : Lf) : flatL (L ++ [l]) = flatL L ++ leafE l := by simp [flatL]
theorem LRow.snoc {w : World} {B : Nat} {v : Value} {L : List Lf} {l : Lf} {n : Nat} (hn : n = L.length) (h : w.ownsRow B 27 6 v (n + 1) (flatL L ++ leafE l)) : LRow w B v (L ++ [l]) := by
  subst hn
  unfold LRow
  rw [flatL_snoc, List.length_append]
  exact h
theorem leaf_news {w : World} {vb : Nat} {l : Lf} (h : Blk w vb 27 (leafE l).toArray) : ∀ (j : Nat) (u : Value), (leafE l)[j]? = some u → w.cell? ((⟨vb, 0, none⟩ : Addr).add j) = some u := fun j u hu => by
  rw [addr0_add, h.cell j]
  simpa using hu
theorem leaf_one (l : Lf) : ∀ u ∈ leafE l, u.oneCell' = true := fun u hu => by
  simp only [leafE, List.mem_cons, List.not_mem_nil, or_false] at hu
  rcases hu with rfl | rfl | rfl | rfl | rfl | rfl <;> rfl

set_option maxRecDepth 100000 in
set_option maxHeartbeats 2000000 in
/-- slices.Insert, at the end. -/
theorem lInsert_end (B : Nat) (v : Value) (L : List Lf) (l : Lf) (vb : Nat) (w : World) (h : LRow w B v L) (hvb : Blk w vb 27 (leafE l).toArray) (hB : B ≤ w.heap.size) (hn4 : L.length ≤ 1048576) :
    Calls Try.prog 22 #[v, .int .i64 (L.length : Int), .slice (some ⟨vb, 0, none⟩) 1 1] w fun e w' => ∃ v', e = .returned v' ∧ Hid (LRow w' B v' (L ++ [l])) ∧ Hid (w.grownBy w' v.ownBlock) := by
  obtain ⟨i0, hi, hz0, hz1, hz2⟩ := info_parts info_leafI
  have hN := Lib.hid (leaf_news hvb)
  have hO := Lib.hid (leaf_one l)
  clear hvb
  obtain ⟨n, hn⟩ : ∃ n, n = L.length := ⟨_, rfl⟩
  have h2 := h.2
  unfold LRow at h
  rw [← hn] at h h2 hn4 ⊢
  replace hn := Lib.hid hn
  replace hB := Lib.hid hB
  rcases h2 with ⟨rfl, h0⟩ | ⟨g, cap, cur, rfl, hbase, hg, hnc, hmx, hcs, htk⟩
  · subst h0
    replace h := Lib.hid h
    go_enter Try.func22, Try.ntmps22
    go_wp2_with (at_builtin; refine wpList_append_own _ rfl _ _ 22 rfl B 27 i0 (.agg #[.bool false, .string ⟨#[]⟩, .string ⟨#[]⟩, .bool false, .string ⟨#[]⟩, .string ⟨#[]⟩]) 6 80 Try.underlying22 hi hz0 hz1 hz2 rfl (by decide) _ _ _ rfl h.out ⟨vb, 0, none⟩ 1 1 (leafE l) rfl rfl hN.out hO.out (by unfold maxLen; omega) (by omega) hB.out ?_)
    intro v' w3 hown' hgrow _
    replace hown' := Lib.hid (LRow.snoc hn.out hown')
    replace hgrow := Lib.hid hgrow
    clear h hN hO hB
    go_wp2_with fail
    go_ret
    exact ⟨_, rfl, hown', hgrow⟩
  · replace h := Lib.hid h
    clear hg hcs htk hbase hmx
    by_cases hcn : cap = n
    · subst hcn
      go_enter Try.func22, Try.ntmps22
      go_wp2_with (at_builtin; refine wpList_append_own _ rfl _ _ 22 rfl B 27 i0 (.agg #[.bool false, .string ⟨#[]⟩, .string ⟨#[]⟩, .bool false, .string ⟨#[]⟩, .string ⟨#[]⟩]) 6 80 Try.underlying22 hi hz0 hz1 hz2 rfl (by decide) _ _ _ rfl h.out ⟨vb, 0, none⟩ 1 1 (leafE l) rfl rfl hN.out hO.out (by unfold maxLen; omega) (by omega) hB.out ?_)
      intro v' w3 hown' hgrow _
      replace hown' := Lib.hid (LRow.snoc hn.out hown')
      replace hgrow := Lib.hid hgrow
      clear h hN hO hB
      go_wp2_with fail
      go_ret
      exact ⟨_, rfl, hown', hgrow⟩
    · skip
      go_enter Try.func22, Try.ntmps22
      go_wp2_with (at_builtin; refine wpList_append_own _ rfl _ _ 22 rfl B 27 i0 (.agg #[.bool false, .string ⟨#[]⟩, .string ⟨#[]⟩, .bool false, .string ⟨#[]⟩, .string ⟨#[]⟩]) 6 80 Try.underlying22 hi hz0 hz1 hz2 rfl (by decide) _ _ _ rfl h.out ⟨vb, 0, none⟩ 1 1 (leafE l) rfl rfl hN.out hO.out (by unfold maxLen; omega) (by omega) hB.out ?_)
      intro v' w3 hown' hgrow _
      replace hown' := Lib.hid (LRow.snoc hn.out hown')
      replace hgrow := Lib.hid hgrow
      clear h hN hO hB
      go_wp2_with fail
      go_ret
      exact ⟨_, rfl, hown', hgrow⟩
end Go.Proofs.Ytoaggmegmgdgbaa
