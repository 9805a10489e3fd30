import Derived.Test.YtoaggmegmgdgbaaGreatInsB
import Derived.Test.YtoaggmegmgdgbaaGreatLamP
import Derived.Test.YtoaggmegmgdgbaaGreatLamK
namespace Go.Proofs.YtoaggmegmgdgbaaGreat
open Go.RowKit Go.Sort
structure LamS (w : World) (B x : Nat) (v : Value) (L : List Lf) : Prop where
  lam : Lam w B x v L
  ok : LOk L
  len : L.length ≤ 4096
theorem LamS.below {w w' : World} {B x : Nat} {v : Value} {L : List Lf} (h : LamS w B x v L) (hb : Below w.heap.size w w') : LamS w' B x v L := ⟨h.lam.below hb, h.ok, h.len⟩
theorem LamS.alloc {w : World} {B x : Nat} {v : Value} {L : List Lf} (h : LamS w B x v L) (o : Obj) : LamS (w.alloc o) B x v L := ⟨h.lam.alloc o, h.ok, h.len⟩
theorem LamS.base {w : World} {B x : Nat} {v : Value} {L : List Lf} (h : LamS w B x v L) : B ≤ w.heap.size := Nat.le_of_lt (Nat.lt_of_le_of_lt h.lam.base h.lam.blk.lt)
theorem Lam.apart {w : World} {B x : Nat} {v : Value} {L : List Lf} (h : Lam w B x v L) : v.ownBlock ≠ some x := fun e => by
  rcases h.row.2 with ⟨rfl, -⟩ | ⟨g, cap, cur, rfl, -, hg, -⟩
  · cases e
  · have e : some g = some x := e
    injection e with e
    subst e
    have h1 := (show w.heap[g]? = _ from h.blk).symm.trans hg
    injection h1 with h1
    injection h1 with h1 h2 h3
    exact absurd h2 (by decide)
theorem Lam.old {w : World} {B x : Nat} {v : Value} {L : List Lf} (h : Lam w B x v L) : ∀ k, k = x ∨ v.ownBlock = some k → B ≤ k ∧ k < w.heap.size := fun k hk => by
  rcases hk with rfl | hk
  · exact ⟨h.base, h.blk.lt⟩
  · exact World.ownsRow.lt h.row k hk
theorem noCross_iff {L : List Lf} {l : Lf} : noCross l L ↔ L.any (crossP l) = false := by
  rw [Bool.eq_false_iff]
  constructor
  · intro h e
    obtain ⟨m, hm, e⟩ := List.any_eq_true.1 e
    obtain ⟨i, hi, rfl⟩ := List.mem_iff_getElem.1 hm
    have := h i hi
    rw [getElem!_pos L i hi] at this
    unfold crossP at e
    rw [this] at e
    cases e
  · intro h t ht
    rcases hp : partsP l L[t]!.1 L[t]!.2 with _ | _
    · rfl
    · exact absurd (List.any_eq_true.2 ⟨L[t]!, getBang_mem ht, hp⟩) h
theorem addL_putL {L : List Lf} {l : Lf} (h1 : l ∉ L) (h2 : ¬ L.any (crossP l) = true) (h3 : ¬ 4096 ≤ L.length) : addL L l = (putL L l (plcL L l), 0) := by
  unfold addL; rw [if_neg h1, if_neg h2, if_neg h3]
set_option maxRecDepth 100000 in
set_option maxHeartbeats 1000000 in
theorem lcloneL (B : Nat) (v : Value) (L : List Lf) (w : World) (h : LRow w B v L) (hn : L.length ≤ 1048576) :
    Calls Tryz.prog 90 #[v] w fun e w' => ∃ v', e = .returned v' ∧ Hid (LRow w' w.heap.size v' L) ∧ Hid (Below w.heap.size w w') := by
  have q : ∀ (w : World) (a : Option Addr) (n c n' c' : Nat), (binOp .eql 27 (.slice a n c) (.slice none n' c')).run Tryz.prog w = .ok (.bool a.isNone) w := fun w a n c n' c' => Lib.run_eql_slice_nil w _ _ a n c n' c' Tryz.underlying27
  rcases h.2 with ⟨rfl, h0⟩ | ⟨g, cap, cur, rfl, hbase, hg, hnc, hmx, hcs, htk⟩
  · have h0' : L = [] := List.eq_nil_of_length_eq_zero h0
    subst h0'
    go_enter Tryz.func90, Tryz.ntmps90
    go_wp2_with fail
    go_ret
    exact ⟨_, rfl, Lib.hid (World.ownsRow_nil _ _ _ _), Lib.hid (Below.refl _ _)⟩
  · obtain ⟨i0, hi, hz0, hz1, hz2⟩ := info_parts info_leafI
    obtain ⟨n, hn2⟩ : ∃ n, n = L.length := ⟨_, rfl⟩
    have hX : Hid ((flatL L).length = n * 6) := Lib.hid (by rw [flatL_len, hn2])
    have hC : Hid (∀ W, Below w.heap.size w W → ∀ (j : Nat) (u : Value), (flatL L)[j]? = some u → W.cell? ((⟨g, 0, none⟩ : Addr).add j) = some u) := Lib.hid (fun W hb j u hj => World.ownsRow.cells (LRow.below h hb) (g := g) rfl j u hj)
    have hO := Lib.hid (flatL_one L)
    have h0 := Lib.hid (World.ownsRow_made (base := w.heap.size) (e := 38) (size := 6) w #[] 0 (Nat.le_refl _) (Nat.zero_le _) rfl)
    have hB := Lib.hid ((Below.refl w.heap.size w).alloc (Nat.le_refl _) (.cells #[] 38))
    rw [← hn2] at hn ⊢
    replace hn2 := Lib.hid hn2
    clear h hg hnc hmx hcs htk hbase
    go_enter Tryz.func90, Tryz.ntmps90
    go_wp2_with (at_builtin; refine wpList_append_own _ rfl _ _ 27 rfl w.heap.size 38 i0 (.agg #[.bool false, .string ⟨#[]⟩, .string ⟨#[]⟩, .bool false, .string ⟨#[]⟩, .string ⟨#[]⟩]) 6 80 Tryz.underlying27 hi hz0 hz1 hz2 rfl (by decide) _ _ _ rfl h0.out ⟨g, 0, none⟩ n cap (flatL L) rfl hX.out (hC.out _ hB.out) hO.out (by unfold maxLen; omega) (by omega) (by simp) ?_)
    intro v' w3 hown' hgrow _
    have hB3 := Lib.hid (hB.out.grown hgrow (by simp) (fun k hk => by
      simp only [Value.ownBlock, Option.some.injEq] at hk
      omega))
    replace hown' : Hid (LRow w3 w.heap.size v' L) := Lib.hid (by
      have h := hown'
      rw [hn2.out] at h
      exact h)
    clear hgrow h0 hC hO hX hB
    go_wp2_with fail
    go_ret
    exact ⟨_, rfl, hown', hB3⟩
theorem row_monoL {w : World} {B B' : Nat} {v : Value} {L : List Lf} (h : LRow w B v L) (hb : B' ≤ B) : LRow w B' v L := by
  refine ⟨h.1, h.2.imp id ?_⟩
  rintro ⟨g, cap, cur, rfl, h1, rest⟩
  exact ⟨g, cap, cur, rfl, Nat.le_trans hb h1, rest⟩
open Go.RowKit Go.Sort
def RdK {α : Type} [Inhabited α] (k : Nat) (enc : α → List Value) (w : World) (v : Value) (Ls : List α) : Prop :=
  ∃ A c, v = .slice A Ls.length c ∧ (0 < Ls.length → ∃ g o, A = some ⟨g, o, none⟩ ∧ ∀ i, i < Ls.length → ∀ (j : Nat) (u : Value), (enc Ls[i]!)[j]? = some u → w.cell? ⟨g, o + i * k + j, none⟩ = some u)
theorem RdK.below {α : Type} [Inhabited α] {k : Nat} {enc : α → List Value} {w w' : World} {v : Value} {Ls : List α} (h : RdK k enc w v Ls) (hb : Below w.heap.size w w') : RdK k enc w' v Ls := by
  obtain ⟨A, c, rfl, h⟩ := h
  refine ⟨A, c, rfl, fun h0 => ?_⟩
  obtain ⟨g, o, e, h2⟩ := h h0
  refine ⟨g, o, e, fun i hi j u hu => ?_⟩
  have h1 := h2 i hi j u hu
  rw [hb.cell (block_lt_of_cell h1)]
  exact h1
end Go.Proofs.YtoaggmegmgdgbaaGreat
