/- A strings.Builder within a writer of package lang. -/
import Derived.Test.YtnaadajcehfmiaaGreatDoorLrM
import Derived.Lib.AppendStr
import Derived.Lib.Builder
namespace Go.Proofs.YtnaadajcehfmiaaGreatDoor
open Go.RowKit Go.Sort Go.Maps

/-- Bytes as cells. -/
def u8s (b : List Nat) : List Value := b.map fun (n : Nat) => Value.int .u8 (n : Int)
/-- A writer's cells. -/
def wrC (vN vL : Value) (m : Int) (ti : Bool) (ad vB : Value) (gk : Nat) : Array Value := #[vN, vL, .int .i64 m, .bool ti, ad, vB, .map (some gk)]
/-- How a function value reads: its number. -/
def fnElem (v : Value) : Option (DataW Unit × List MemPlace) :=
  match v with
  | .func (.func f) a c => if a.size = 0 ∧ c.size = 0 then some (.lit (.int .i64 (f : Int)), []) else none
  | .nilFunc => some (.lit (.int .i64 (-1)), [])
  | _ => none
/-- What a writer has written. -/
def WrS (B x gk : Nat) (DK : DataW Unit) (vN vL : Value) (m : Int) (ti : Bool) (b : List Nat) (w : World) : Prop :=
  ∃ ad vB, (ad = .pointer none ∨ ad = .pointer (some ⟨x, 4, none⟩)) ∧ Blk w x 92 (wrC vN vL m ti ad vB gk) ∧ w.ownsRow B 5 1 vB b.length (u8s b) ∧ w.ownsMap Tryz.prog 50 fnElem gk 10 DK ∧ B ≤ x ∧ B ≤ gk ∧ Byt b
/-- Blocks that hold no bytes stay, but for the writer's. -/
def TwU (x : Nat) (w w' : World) : Prop := w.heap.size ≤ w'.heap.size ∧ ∀ k, k < w.heap.size → k ≠ x → (∀ cs fr, w.heap[k]? ≠ some (.cells cs 5 fr)) → w'.heap[k]? = w.heap[k]?
theorem TwU.trans {x : Nat} {a b c : World} (h : TwU x a b) (k : TwU x b c) : TwU x a c := ⟨Nat.le_trans h.1 k.1, fun i hi hx hu => by
  have e := h.2 i hi hx hu
  rw [← e]
  exact k.2 i (Nat.lt_of_lt_of_le hi h.1) hx (fun cs fr => by rw [e]; exact hu cs fr)⟩
theorem TwU.refl (x : Nat) (a : World) : TwU x a a := ⟨Nat.le_refl _, fun _ _ _ _ => rfl⟩
theorem TwU.below {x : Nat} {a b : World} (h : Below a.heap.size a b) : TwU x a b := ⟨h.size, fun k hk _ _ => h.block k hk⟩
theorem TwU.blk {x : Nat} {a b : World} (h : TwU x a b) {g : Nat} {T : TypeId} {cs : Array Value} (hk : Blk a g T cs) (hT : T ≠ 5) (hg : g ≠ x) : Blk b g T cs := by
  unfold Blk at hk ⊢
  rw [h.2 g (Blk.lt hk) hg (fun cs' fr e => by
    rw [hk] at e
    injection e with e
    injection e with e1 e2 e3
    exact hT e2), hk]
theorem TwU.row {x : Nat} {a b : World} {B n : Nat} {v : Value} {xs : List Value} (h : a.ownsRow B 5 1 v n xs) (hg : a.grownBy b v.ownBlock) : TwU x a b := ⟨hg.size, fun k hk _ hu => hg.block k hk (fun e => by
  rcases h.2 with ⟨rfl, -⟩ | ⟨g, cap, cur, rfl, -, h1, -⟩
  · cases e
  · have e : some k = some g := e
    injection e with e
    subst e
    exact hu _ _ h1)⟩
theorem TwU.gb {x : Nat} {a b : World} (hg : a.grownBy b (some x)) : TwU x a b := ⟨hg.size, fun k hk hx _ => hg.block k hk (fun e => hx (by injection e))⟩
theorem row_ne_blk {w : World} {B n : Nat} {v : Value} {xs : List Value} {x : Nat} {cs : Array Value} (h : w.ownsRow B 5 1 v n xs) (hk : Blk w x 92 cs) : some x ≠ v.ownBlock := fun e => by
  rcases h.2 with ⟨rfl, -⟩ | ⟨g, cap, cur, rfl, -, hg, -⟩
  · cases e
  · have e : some x = some g := e
    injection e with e
    subst e
    unfold Blk at hk
    rw [hk] at hg
    injection hg with hg
    injection hg with h1 h2 h3
    exact absurd h2 (by decide)
theorem row_ne_map {w : World} {B n : Nat} {v : Value} {xs : List Value} {gk : Nat} {DK : DataW Unit} (h : w.ownsRow B 5 1 v n xs) (hk : w.ownsMap Tryz.prog 50 fnElem gk 10 DK) : some gk ≠ v.ownBlock := fun e => by
  obtain ⟨es, cl, hk, -⟩ := hk
  rcases h.2 with ⟨rfl, -⟩ | ⟨g, cap, cur, rfl, -, hg, -⟩
  · cases e
  · have e : some gk = some g := e
    injection e with e
    subst e
    rw [hk] at hg
    cases hg
theorem map_ne_blk {w : World} {x : Nat} {cs : Array Value} {gk : Nat} {DK : DataW Unit} (hb : Blk w x 92 cs) (hk : w.ownsMap Tryz.prog 50 fnElem gk 10 DK) : gk ≠ x := fun e => by
  obtain ⟨es, cl, hk, -⟩ := hk
  subst e
  unfold Blk at hb
  rw [hk] at hb
  cases hb
theorem bld_size : (Tryz.prog.info? 90).map (·.size) = some 2 := by kernel_rfl
theorem wr_lies : liesAt Tryz.prog Tryz.prog.depth 92 (7 / Tryz.prog.cellsOf 92) 4 90 1 = true := by kernel_rfl
theorem info_u8 : (Tryz.prog.info? 5).map (fun i => (i.zero, i.size, i.bytes)) = some (some (.int .u8 0), 1, 1) := by kernel_rfl
theorem blk_shape {w : World} {g : Nat} {T : TypeId} {cs : Array Value} (h : Blk w g T cs) : w.shape? g = some (T, cs.size) := by
  unfold Blk at h
  simp [World.shape?, h]
section
variable {B x gk : Nat} {vN vL : Value} {m : Int} {ti : Bool} {DK : DataW Unit} {b : List Nat} {w w' : World}
theorem WrS.below (h : WrS B x gk DK vN vL m ti b w) (hb : Below w.heap.size w w') : WrS B x gk DK vN vL m ti b w' := by
  obtain ⟨ad, vB, h1, h2, h3, h4, h5⟩ := h
  exact ⟨ad, vB, h1, h2.below hb, own_below h3 hb, h4.kept (gb_of hb none) (by simp), h5⟩
theorem WrS.lt (h : WrS B x gk DK vN vL m ti b w) : x < w.heap.size ∧ B ≤ w.heap.size := by
  obtain ⟨ad, vB, h1, h2, h3, h4, h5, h6⟩ := h
  have := h2.lt
  omega
set_option maxRecDepth 100000 in
theorem wcopyCheck (ad vB : Value) (h : ad = .pointer none ∨ ad = .pointer (some ⟨x, 4, none⟩)) (hk : Blk w x 92 (wrC vN vL m ti ad vB gk)) :
    Calls Tryz.prog 72 #[.pointer (some ⟨x, 4, none⟩)] w fun e w' => e = .returned (.tuple #[]) ∧ Blk w' x 92 (wrC vN vL m ti (.pointer (some ⟨x, 4, none⟩)) vB gk) ∧ w.grownBy w' (some x) := by
  obtain ⟨j, hj, hjs⟩ := Option.map_eq_some_iff.1 bld_size
  have hsh : w.shape? x = some (92, 7) := blk_shape hk
  rcases h with rfl | rfl
  · have h0 : w.cell? ⟨x, 4, none⟩ = some (.pointer none) := hk.cell 4
    have hfz : w.frozen? ⟨x, 4, none⟩ = false := hk.frozen 4
    have hkH := Lib.hid hk
    clear hk
    go_enter Tryz.func72, Tryz.ntmps72
    go_wp2_with fail
    rw [Lib.run_to_unsafe w ⟨x, 4, none⟩ Tryz.underlying87 Tryz.underlying108 hj (by rw [hjs]; decide) hsh (show 4 < 7 by decide)]
    simp only [Result.andThen]
    rw [Oper.upon_value]
    go_wp2
    rw [run_callFunc_extern Tryz.func83 (by kernel_rfl) (by kernel_rfl) (by kernel_rfl) (e := Extern.AbiNoEscape.same) (by kernel_rfl)]
    rw [Lib.run_noEscape]
    simp only [Result.andThen]
    rw [Oper.upon_value]
    go_wp2
    rw [Lib.run_from_unsafe w ⟨x, 4, none⟩ Tryz.underlying108 Tryz.underlying87 hj hsh wr_lies]
    simp only [Result.andThen]
    rw [Oper.upon_value]
    go_wp2
    go_end0
    exact ⟨rfl, hkH.out.set_ 4 (.pointer (some ⟨x, 4, none⟩)), gb_set (gb_refl w _) 4 _⟩
  · have h0 : w.cell? ⟨x, 4, none⟩ = some (.pointer (some ⟨x, 4, none⟩)) := hk.cell 4
    have hkH := Lib.hid hk
    clear hk
    go_enter Tryz.func72, Tryz.ntmps72
    go_wp2_with fail
    rw [Lib.run_neq_ptr_same w _ Tryz.underlying87 hj]
    go_wp2
    go_end0
    exact ⟨rfl, hkH.out, gb_refl w _⟩
set_option maxRecDepth 100000 in
set_option maxHeartbeats 4000000 in
/-- WriteString -/
theorem wWriteString (h : WrS B x gk DK vN vL m ti b w) (t : List Nat) (ht : Byt t) (hl : b.length + t.length ≤ 140737488355328) :
    Calls Tryz.prog 59 #[.pointer (some ⟨x, 4, none⟩), .string (mkS t)] w (fun e w' => (∃ v, e = .returned v) ∧ WrS B x gk DK vN vL m ti (b ++ t) w' ∧ Below B w w' ∧ TwU x w w') := by
  obtain ⟨i0, hi, hz0, hz1, hz2⟩ := info_parts info_u8
  have hlt := h.lt
  obtain ⟨ad, vB, had, hk, hrow0, hM0, hBx, hBg, hby⟩ := h
  have cC := Lib.hid (wcopyCheck ad vB had hk)
  have hxr := row_ne_blk hrow0 hk
  have hgx := map_ne_blk hk hM0
  replace hrow0 := Lib.hid hrow0
  replace hM0 := Lib.hid hM0
  replace hxr := Lib.hid hxr
  clear hk
  go_enter Tryz.func59, Tryz.ntmps59
  go_wp2_with fail
  refine cC.out.mono ?_
  rintro en w1 ⟨rfl, hk1, hg1⟩
  have hB1 : Hid (Below B w w1) := Lib.hid (Below.of_gb hg1 hBx hlt.2)
  have hT1 := Lib.hid (TwU.gb hg1)
  have hB1s : B ≤ w1.heap.size := Nat.le_trans hlt.2 hB1.out.size
  have hrow : w1.ownsRow B 5 1 vB b.length (u8s b) := World.ownsRow.kept hrow0.out hg1 (.inr (fun e => hxr.out e.symm))
  have hM1 := Lib.hid (World.ownsMap.kept hM0.out hg1 (fun e => hgx (by injection e)))
  obtain ⟨AB, cB, rfl, -, -⟩ := own_form hrow
  obtain ⟨nb, hnb⟩ : ∃ n, n = b.length := ⟨_, rfl⟩
  rw [← hnb] at hrow hl
  have a5 : w1.cell? ⟨x, 5, none⟩ = some (.slice AB nb cB) := by rw [hnb]; exact hk1.cell 5
  have f5 : w1.frozen? ⟨x, 5, none⟩ = false := hk1.frozen 5
  have hrowH := Lib.hid hrow
  have hmr := Lib.hid (row_ne_map hrow hM1.out)
  rw [← hnb] at hk1 hxr
  have hk1H := Lib.hid hk1
  replace hnb := Lib.hid hnb
  clear hrow hk1 hg1 cC hrow0 hM0
  go_wp2_with (at_builtin; refine Lib.wpList_append_own_string _ rfl _ _ 88 9 rfl B 5 i0 Tryz.underlying88 Tryz.underlying9 hi hz0 hz1 hz2 _ _ _ rfl hrowH.out (mkS t) rfl (by rw [mkS_size]; unfold maxLen; omega) (by rw [mkS_size]; exact hl) hB1s ?_)
  intro v' w2 hown' hgrow hniff
  have hown2 : w2.ownsRow B 5 1 v' (nb + t.length) (u8s b ++ u8s t) := by
    have e : Lib.strCells (mkS t) = u8s t := by
      unfold Lib.strCells u8s
      rw [mkS_data, List.map_map]
      exact List.map_congr_left fun y hy => by
        have := ht y hy
        simp; omega
    rw [mkS_size, e] at hown'
    exact hown'
  have hgr2 : w1.grownBy w2 (Value.slice AB nb cB).ownBlock := hgrow
  clear hown' hgrow hniff
  obtain ⟨A2, c2, rfl, -, -⟩ := own_form hown2
  have hk2 : Blk w2 x 92 (wrC vN vL m ti (.pointer (some ⟨x, 4, none⟩)) (.slice AB nb cB) gk) := Blk.grown hk1H.out hgr2 hxr.out
  have hM2 := Lib.hid (World.ownsMap.kept hM1.out hgr2 (fun e => hmr.out e))
  have hB2 : Hid (Below B w w2) := Lib.hid (hB1.out.grown hgr2 hB1s (fun q hq => (World.ownsRow.lt hrowH.out q hq).1))
  have hT2 := Lib.hid (hT1.out.trans (TwU.row (x := x) hrowH.out hgr2))
  have a5' : w2.cell? ⟨x, 5, none⟩ = some (.slice AB nb cB) := hk2.cell 5
  have f5' : w2.frozen? ⟨x, 5, none⟩ = false := hk2.frozen 5
  have hx2 := Lib.hid (row_ne_blk hown2 hk2)
  have hk2H := Lib.hid hk2
  have hown2H := Lib.hid hown2
  clear hk2 hown2 hgr2 a5 f5 hrowH hk1H hM1 hmr hxr
  go_wp2_with fail
  go_ret2
  refine ⟨⟨_, rfl⟩, ⟨.pointer (some ⟨x, 4, none⟩), .slice A2 (nb + t.length) c2, .inr rfl, ?_, ?_, ?_, hBx, hBg, ?_⟩, hB2.out.setCell (p := ⟨x, 5, none⟩) hBx _, hT2.out.trans (TwU.gb (gb_set (gb_refl w2 (some x)) 5 _))⟩
  · have h := hk2H.out.set_ 5 (.slice A2 (nb + t.length) c2)
    exact h
  · have e1 : (b ++ t).length = (nb + t.length) := by rw [List.length_append, ← hnb.out]
    have e2 : u8s (b ++ t) = u8s b ++ u8s t := by unfold u8s; rw [List.map_append]
    rw [e1, e2]
    exact World.ownsRow.kept hown2H.out (gb_set (gb_refl w2 (some x)) 5 _) (.inr (fun e => hx2.out e.symm))
  · exact World.ownsMap.kept hM2.out (gb_set (gb_refl w2 (some x)) 5 _) (fun e => hgx (by injection e))
  · intro y hy
    rcases List.mem_append.1 hy with hy | hy
    · exact hby y hy
    · exact ht y hy
set_option maxRecDepth 100000 in
set_option maxHeartbeats 4000000 in
/-- WriteByte -/
theorem wWriteByte (h : WrS B x gk DK vN vL m ti b w) (c : Nat) (hc : c < 256) (hl : b.length + 1 ≤ 140737488355328) :
    Calls Tryz.prog 69 #[.pointer (some ⟨x, 4, none⟩), .int .u8 (c : Int)] w (fun e w' => (∃ v, e = .returned v) ∧ WrS B x gk DK vN vL m ti (b ++ [c]) w' ∧ Below B w w' ∧ TwU x w w') := by
  obtain ⟨i0, hi, hz0, hz1, hz2⟩ := info_parts info_u8
  have hlt := h.lt
  obtain ⟨ad, vB, had, hk, hrow0, hM0, hBx, hBg, hby⟩ := h
  have cC := Lib.hid (wcopyCheck ad vB had hk)
  have hxr := row_ne_blk hrow0 hk
  have hgx := map_ne_blk hk hM0
  replace hrow0 := Lib.hid hrow0
  replace hM0 := Lib.hid hM0
  replace hxr := Lib.hid hxr
  clear hk
  go_enter Tryz.func69, Tryz.ntmps69
  go_wp2_with fail
  refine cC.out.mono ?_
  rintro en w1 ⟨rfl, hk1, hg1⟩
  have hB1 : Hid (Below B w w1) := Lib.hid (Below.of_gb hg1 hBx hlt.2)
  have hT1 := Lib.hid (TwU.gb hg1)
  have hB1s : B ≤ w1.heap.size := Nat.le_trans hlt.2 hB1.out.size
  have hrow : w1.ownsRow B 5 1 vB b.length (u8s b) := World.ownsRow.kept hrow0.out hg1 (.inr (fun e => hxr.out e.symm))
  have hM1 := Lib.hid (World.ownsMap.kept hM0.out hg1 (fun e => hgx (by injection e)))
  obtain ⟨AB, cB, rfl, -, -⟩ := own_form hrow
  obtain ⟨nb, hnb⟩ : ∃ n, n = b.length := ⟨_, rfl⟩
  rw [← hnb] at hrow hl
  have a5 : w1.cell? ⟨x, 5, none⟩ = some (.slice AB nb cB) := by rw [hnb]; exact hk1.cell 5
  have f5 : w1.frozen? ⟨x, 5, none⟩ = false := hk1.frozen 5
  have hrowH := Lib.hid hrow
  have hmr := Lib.hid (row_ne_map hrow hM1.out)
  rw [← hnb] at hk1 hxr
  have hk1H := Lib.hid hk1
  replace hnb := Lib.hid hnb
  clear hrow hk1 hg1 cC hrow0 hM0
  have hB1t := hB1s
  go_wp2_with (at_builtin; refine wpList_append_own_at _ rfl _ _ 88 rfl B 5 i0 (.int .u8 0) 1 1 Tryz.underlying88 hi hz0 hz1 hz2 rfl (by decide) _ _ _ rfl (hrowH.out.alloc _) ⟨w1.heap.size, 0, none⟩ 1 1 [.int .u8 (c : Int)] rfl rfl (news_blk (Blk.new w1 5 #[.int .u8 (c : Int)])) (fun u hu => by rw [List.mem_singleton.1 hu]; rfl) (by unfold maxLen; omega) (by omega) (by simp; omega) ?_)
  intro v' w2 hown' hgrow _ hloc
  have hown2 : w2.ownsRow B 5 1 v' (nb + 1) (u8s b ++ u8s [c]) := hown'
  have hgr2 : w1.grownBy w2 (Value.slice AB nb cB).ownBlock := ⟨hgrow.os, hgrow.tape, hgrow.output, by have := hgrow.size; simp at this; omega, fun k hk hn => by rw [hgrow.block k (by simp; omega) hn]; exact Below.heap_alloc w1 _ k hk⟩
  clear hown' hgrow hloc
  obtain ⟨A2, c2, rfl, -, -⟩ := own_form hown2
  have hk2 : Blk w2 x 92 (wrC vN vL m ti (.pointer (some ⟨x, 4, none⟩)) (.slice AB nb cB) gk) := Blk.grown hk1H.out hgr2 hxr.out
  have hM2 := Lib.hid (World.ownsMap.kept hM1.out hgr2 (fun e => hmr.out e))
  have hB2 : Hid (Below B w w2) := Lib.hid (hB1.out.grown hgr2 hB1s (fun q hq => (World.ownsRow.lt hrowH.out q hq).1))
  have hT2 := Lib.hid (hT1.out.trans (TwU.row (x := x) hrowH.out hgr2))
  have a5' : w2.cell? ⟨x, 5, none⟩ = some (.slice AB nb cB) := hk2.cell 5
  have f5' : w2.frozen? ⟨x, 5, none⟩ = false := hk2.frozen 5
  have hx2 := Lib.hid (row_ne_blk hown2 hk2)
  have hk2H := Lib.hid hk2
  have hown2H := Lib.hid hown2
  clear hk2 hown2 hgr2 a5 f5 hrowH hk1H hM1 hmr hxr
  go_wp2_with fail
  go_ret
  refine ⟨⟨_, rfl⟩, ⟨.pointer (some ⟨x, 4, none⟩), .slice A2 (nb + 1) c2, .inr rfl, ?_, ?_, ?_, hBx, hBg, ?_⟩, hB2.out.setCell (p := ⟨x, 5, none⟩) hBx _, hT2.out.trans (TwU.gb (gb_set (gb_refl w2 (some x)) 5 _))⟩
  · have h := hk2H.out.set_ 5 (.slice A2 (nb + 1) c2)
    exact h
  · have e1 : (b ++ [c]).length = (nb + 1) := by rw [List.length_append, ← hnb.out]; rfl
    have e2 : u8s (b ++ [c]) = u8s b ++ u8s [c] := by unfold u8s; rw [List.map_append]
    rw [e1, e2]
    exact World.ownsRow.kept hown2H.out (gb_set (gb_refl w2 (some x)) 5 _) (.inr (fun e => hx2.out e.symm))
  · exact World.ownsMap.kept hM2.out (gb_set (gb_refl w2 (some x)) 5 _) (fun e => hgx (by injection e))
  · intro y hy
    rcases List.mem_append.1 hy with hy | hy
    · exact hby y hy
    · rw [List.mem_singleton.1 hy]; exact hc
end
end Go.Proofs.YtnaadajcehfmiaaGreatDoor
