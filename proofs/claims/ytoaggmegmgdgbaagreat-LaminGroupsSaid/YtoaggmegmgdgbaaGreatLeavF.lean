import Derived.Test.YtoaggmegmgdgbaaGreatLamR
import Derived.Test.YtoaggmegmgdgbaaGreatLamB
import Derived.Test.YtoaggmegmgdgbaaGreatIter
import Derived.Test.YtoaggmegmgdgbaaGreatItO
import Derived.RangeFuncNested
import Derived.RangeFuncBound
import Derived.Shelf.Abstract
import Derived.Shelf.RegionOpen
import Derived.OwnWalkIn
import Derived.TacticsInMore
import Derived.LoopNIn
import Derived.LoopIn
import Derived.Test.YtoaggmegmgdgbaaGreatLamO
import Derived.Deep.CutBlock
import Derived.Deep.CutRange
namespace Go.Proofs.YtoaggmegmgdgbaaGreat
open Go.RowKit Go.Sort
attribute [local go_sem] Oper.semAt_some
theorem row_keep {S : Nat → Prop} {A B : World} {base : Nat} {v : Value} {L : List Lf} (h : LRow A base v L) (hk : KeepB S A B) (hS : ∀ k, v.ownBlock = some k → S k) : LRow B base v L := by
  obtain ⟨h1, h2⟩ := h
  refine ⟨h1, h2.imp id ?_⟩
  rintro ⟨g, cap, cur, rfl, hb, hg, rest⟩
  exact ⟨g, cap, cur, rfl, hb, (hk.block g (hS g rfl)).trans hg, rest⟩
set_option maxRecDepth 100000 in
set_option maxHeartbeats 2000000 in
theorem lLeavesP_any (pv : Value) (h1 : pv.oneCell' = true) (hp : pv.cells = #[pv]) (w : World) :
    Calls Tryz.prog 41 #[pv] w fun e w' => e = .returned (.func (.func 93) #[] #[.pointer (some ⟨w.heap.size, 0, none⟩)]) ∧ w' = w.alloc (.cells #[pv] 63) := by
  go_enter Tryz.func41, Tryz.ntmps41
  go_wp2_with fail
  go_ret
  simp [hp]
set_option maxRecDepth 100000 in
set_option maxHeartbeats 2000000 in
theorem lLeaves_iter (gx B x : Nat) (v : Value) (L : List Lf) (w0 : World) (hx : Blk w0 gx 63 #[.pointer (some ⟨x, 0, none⟩)]) (hS : LamS w0 B x v L) :
    IterB Tryz.prog 93 #[.pointer (some ⟨gx, 0, none⟩)] (fun (l : Lf) => #[leafV l]) L (fun _ => False) w0 := by
  intro l J Jx W hW hJ hJx hY h0
  replace hx := Lib.hid (hx.below hW)
  replace hS := Lib.hid (hS.below hW)
  obtain ⟨A, c, rfl, hA⟩ := LRow.form hS.out.lam.row
  have hN : Hid (∀ W', LamS W' B x (.slice A L.length c) L → Calls Tryz.prog 76 #[.pointer (some ⟨x, 0, none⟩)] W' (RetVal (.bool false) W')) := Lib.hid (fun W' h => lnone_any x true _ W' h.lam.blk)
  have hCl : Hid (∀ W', LamS W' B x (.slice A L.length c) L → Calls Tryz.prog 90 #[.slice A L.length c] W' fun e w' => ∃ v', e = .returned v' ∧ Hid (LRow w' W'.heap.size v' L) ∧ Hid (Below W'.heap.size W' w')) := Lib.hid (fun W' h => lcloneL B _ L W' h.lam.row (Nat.le_trans h.len (by decide)))
  obtain ⟨n, hn⟩ : ∃ n, n = L.length := ⟨_, rfl⟩
  rw [← hn] at hN hCl hS
  have hn4 : n ≤ 4096 := by rw [hn]; exact hS.out.len
  replace hn := Lib.hid hn
  replace hJ := Lib.hid hJ
  replace hJx := Lib.hid hJx
  replace hY := Lib.hid hY
  replace h0 := Lib.hid h0
  have hBW := Lib.hid (Below.refl W.heap.size W)
  have x0 : W.cell? ⟨gx, 0, none⟩ = some (.pointer (some ⟨x, 0, none⟩)) := hx.out.cell 0
  clear hA hW
  refine callsIn_of_wp Tryz.func93 rfl trivial ?_ rfl
  simp only [Tryz.ntmps93, List.size_toArray, List.length_cons, List.length_nil, Nat.reduceAdd, Nat.reduceSub, Array.replicate_succ, Array.replicate_zero, List.push_toArray, List.append_toArray, List.nil_append, List.cons_append]
  refine wpIn_wide.2 ?_
  go_wp2_with fail
  refine (hN.out _ hS.out).mono ?_
  rintro e w2 ⟨rfl, hb⟩
  replace hBW := Lib.hid (hBW.out.trans (hb.mono hBW.out.size))
  replace hS := Lib.hid (hS.out.below hb)
  replace hx := Lib.hid (Blk.below hx.out hb)
  clear hb hN x0
  have x0 : w2.cell? ⟨gx, 0, none⟩ = some (.pointer (some ⟨x, 0, none⟩)) := hx.out.cell 0
  have x1 : w2.cell? ⟨x, 1, none⟩ = some (.slice A n c) := hS.out.lam.blk.cell 1
  go_wp2_with fail
  refine (hCl.out _ hS.out).mono ?_
  rintro e w3 ⟨v3, rfl, hr3, hb3⟩
  have hb := Lib.hid (hBW.out.trans (hb3.out.mono hBW.out.size))
  replace hr3 := Lib.hid (row_monoL hr3.out hBW.out.size)
  clear hBW hb3 hCl hS hx x0 x1
  obtain ⟨m, hm⟩ : ∃ m, W.heap.size + m = w3.heap.size := ⟨w3.heap.size - W.heap.size, by have := hb.out.size; omega⟩
  have hJ0 := Lib.hid (hJ.out m [] W w3 (h0.out m) (outB_of_below hb.out))
  have hown : Hid (∀ k, v3.ownBlock = some k → W.heap.size ≤ k ∧ k < W.heap.size + m) := Lib.hid (fun k hk => by
    have := World.ownsRow.lt hr3.out k hk
    omega)
  obtain ⟨A3, c3, hv3, hA3⟩ := LRow.form hr3.out
  subst hv3
  rw [← hn.out] at hown hr3 hA3 ⊢
  clear hb h0
  go_wp2_with fail
  go_loopw [13] (fun cc wr => ∃ (i : Nat), cc = .int .i64 (i : Int) ∧ i ≤ n ∧ Hid (LRow wr W.heap.size (.slice A3 n c3) L) ∧ Hid (J m (L.take i) wr) ∧ w3.heap.size ≤ wr.heap.size) (fun cc _ => n - (intOf cc).toNat)
  case atStart => exact ⟨0, rfl, Nat.zero_le _, hr3, hJ0, Nat.le_refl _⟩
  case round =>
    obtain ⟨i, rfl, hin, hr, hJi, hsz⟩ := hrel
    by_cases hlt : i < n
    · have hil : i < L.length := by rw [← hn.out]; exact hlt
      obtain ⟨g, rfl⟩ := hA3 (by omega)
      obtain ⟨q, hq⟩ : ∃ q, q = L[i]! := ⟨_, rfl⟩
      have hC := LRow.cell (by have h := hr.out; rw [hn.out] at h; exact h) hil
      rw [← hq] at hC
      have m0 : wr.cell? ⟨g, i * 6, none⟩ = some (.bool false) := hC 0 _ rfl
      have m1 : wr.cell? ⟨g, i * 6 + 1, none⟩ = some (.string (natS q.1.1)) := hC 1 _ rfl
      have m2 : wr.cell? ⟨g, i * 6 + 2, none⟩ = some (.string (natS q.1.2)) := hC 2 _ rfl
      have m3 : wr.cell? ⟨g, i * 6 + 3, none⟩ = some (.bool false) := hC 3 _ rfl
      have m4 : wr.cell? ⟨g, i * 6 + 4, none⟩ = some (.string (natS q.2.1)) := hC 4 _ rfl
      have m5 : wr.cell? ⟨g, i * 6 + 5, none⟩ = some (.string (natS q.2.2)) := hC 5 _ rfl
      have hiz : (i : Int) < (n : Int) := by omega
      have hpre : Hid (L.take i ++ [q] = L.take (i + 1)) := Lib.hid (by
        rw [hq, List.take_add_one, List.getElem?_eq_getElem hil, getElem!_pos L i hil]; rfl)
      replace hq := Lib.hid hq
      clear hC
      replace hr := Lib.hid (LRow.alloc hr.out (.cells #[.bool false, .string (natS q.1.1), .string (natS q.1.2), .bool false, .string (natS q.2.1), .string (natS q.2.2)] 38))
      replace hJi := Lib.hid (hJ.out _ _ _ _ hJi.out (outB_of_below ((Below.refl wr.heap.size wr).alloc (Nat.le_refl _) (.cells #[.bool false, .string (natS q.1.1), .string (natS q.1.2), .bool false, .string (natS q.2.1), .string (natS q.2.2)] 38))))
      have hsa : w3.heap.size ≤ (wr.alloc (.cells #[.bool false, .string (natS q.1.1), .string (natS q.1.2), .bool false, .string (natS q.2.1), .string (natS q.2.2)] 38)).heap.size := by simp; omega
      obtain ⟨fn, tmps, assign, body, hy, hrd⟩ := hY.out m _ _ _ hJi.out (by omega) (by rw [hpre.out]; exact List.take_prefix _ _)
      simp only [leafV, leafE] at hy
      replace hrd := Lib.hid hrd
      have hsb : w3.heap.size ≤ (wr.alloc (.cells #[.bool false, .string (natS q.1.1), .string (natS q.1.2), .bool false, .string (natS q.2.1), .string (natS q.2.2)] 38)).heap.size := hsa
      replace hsb := Lib.hid hsb
      clear hsa
      obtain ⟨wo, hwo⟩ : ∃ wo : World, wo = wr := ⟨_, rfl⟩
      clear hwo wo
      refine (wpIn_wide (n := 0)).1 ?_
      gi_wp2_with fail
      refine ⟨rfl, hrd.out.mono ?_⟩
      rintro e w2 (⟨rfl, hJ2, hkp⟩ | ⟨rfl, hJx2⟩)
      · rw [hpre.out] at hJ2
        have hr2 : Hid (LRow w2 W.heap.size (.slice (some ⟨g, 0, none⟩) n c3) L) := Lib.hid (row_keep hr.out hkp (fun k hk => .inr (hown.out k hk)))
        have hs2 : w3.heap.size ≤ w2.heap.size := Nat.le_trans hsb.out hkp.size
        replace hJ2 := Lib.hid hJ2
        clear hkp hy hrd hr hJi
        gi_wp2_with fail
        go_roundw
        case rel => exact ⟨i + 1, by go_num, by omega, hr2, hJ2, hs2⟩
        case measure => simp [intOf]; omega
      · replace hJx2 := Lib.hid hJx2
        rw [hpre.out] at hJx2
        clear hy hrd
        gi_wp2_with fail
        refine bodyPost_ret (results_none rfl _ _ _) rfl ?_
        exact ⟨⟨_, rfl⟩, m, .inr ⟨_, List.take_prefix _ _, hJx2.out⟩⟩
    · obtain rfl : i = n := by omega
      have hJe : Hid (J m L wr) := Lib.hid (by have h := hJi.out; rwa [List.take_of_length_le (by rw [hn.out]; exact Nat.le_refl _)] at h)
      clear hr hJi
      go_wp2_with fail
      go_end0
      exact ⟨⟨_, rfl⟩, m, .inl hJe.out⟩
end Go.Proofs.YtoaggmegmgdgbaaGreat
namespace Go.Proofs.YtoaggmegmgdgbaaGreat
open Go.RowKit Go.Sort
attribute [local go_sem] Oper.semAt_some
theorem row_outF {A B : World} {lo hi : Nat} {v : Value} {L : List Lf} (h : LRow A hi v L) (ho : OutB lo hi A B) : LRow B hi v L := by
  obtain ⟨h1, h2⟩ := h
  refine ⟨h1, h2.imp id ?_⟩
  rintro ⟨g, cap, cur, rfl, hb, hg, rest⟩
  have hlt : g < A.heap.size := by
    rcases Nat.lt_or_ge g A.heap.size with h | h
    · exact h
    · rw [Array.getElem?_eq_none h] at hg; cases hg
  exact ⟨g, cap, cur, rfl, hb, (ho.block g hlt (by omega)).trans hg, rest⟩
set_option maxRecDepth 100000 in
set_option maxHeartbeats 4000000 in
theorem lleaves_any (B x : Nat) (v : Value) (L : List Lf) (w : World) (hS : LamS w B x v L) :
    Calls Tryz.prog 52 #[.pointer (some ⟨x, 0, none⟩)] w (fun e w' => ∃ v', e = .returned v' ∧ LRow w' w.heap.size v' L ∧ Below w.heap.size w w') := by
  have hB := Lib.hid (Below.refl w.heap.size w)
  obtain ⟨n0, hn0⟩ : ∃ k, k = L.length := ⟨_, rfl⟩
  have hlen : n0 ≤ 4096 := by rw [hn0]; exact hS.len
  replace hS := Lib.hid hS
  replace hn0 := Lib.hid hn0
  refine callsIn_wide.1 (callsIn_of_wp_marks (n := 0) Tryz.func52 rfl trivial ?_ rfl)
  simp only [Tryz.ntmps52, List.size_toArray, List.length_cons, List.length_nil, Nat.reduceAdd, Nat.reduceSub, Array.replicate_succ, Array.replicate_zero, List.push_toArray, List.append_toArray, List.nil_append, List.cons_append]
  refine wpIn_wide.2 ?_
  go_upto_region 2 with fail
  have hK := Lib.hid (Blk.new w 27 #[.slice none 0 0])
  replace hB := Lib.hid (hB.out.alloc hB.out.size (.cells #[.slice none 0 0] 27))
  replace hS := Lib.hid (hS.out.alloc (.cells #[.slice none 0 0] 27))
  generalize hW : w.alloc (.cells #[.slice none 0 0] 27) = w7 at hB hS hK ⊢
  obtain ⟨gq, hgq⟩ : ∃ g, g = w.heap.size := ⟨_, rfl⟩
  rw [← hgq] at hK ⊢
  replace hgq := Lib.hid hgq
  clear hW
  go_wp2_with fail
  refine (lLeavesP_any (.pointer (some ⟨x, 0, none⟩)) rfl rfl _).mono ?_
  rintro en w8 ⟨rfl, rfl⟩
  have hI := Lib.hid (Blk.new w7 63 #[.pointer (some ⟨x, 0, none⟩)])
  replace hB := Lib.hid (hB.out.alloc hB.out.size (.cells #[.pointer (some ⟨x, 0, none⟩)] 63))
  replace hS := Lib.hid (hS.out.alloc (.cells #[.pointer (some ⟨x, 0, none⟩)] 63))
  replace hK := Lib.hid (hK.out.alloc (.cells #[.pointer (some ⟨x, 0, none⟩)] 63))
  generalize hW : w7.alloc (.cells #[.pointer (some ⟨x, 0, none⟩)] 63) = U at hB hS hK hI ⊢
  generalize hgg : w7.heap.size = gi at hI ⊢
  clear hW hgg
  go_wp2_with fail
  have hgqU := hK.out.lt
  refine (wpIn_wide (n := 0)).1 ?_
  refine wpIn_iterB (gf := 93) (lb := #[.pointer (some ⟨gi, 0, none⟩)]) rfl (enters_of Tryz.func93 (by kernel_rfl) rfl) (lLeaves_iter gi B x v L U hI.out hS.out) (Below.refl _ _) (fun k hk => hk.elim) (fun _ => rfl)
    (fun m pre W' => U.grownBy W' (some gq) ∧ ∃ vk, Blk W' gq 27 #[vk] ∧ LRow W' (U.heap.size + 2 + m) vk pre) (fun _ _ _ _ => False) (fun m s A B h ho => ⟨gb_out h.1 ho, by
      obtain ⟨vk, h1, h2⟩ := h.2
      exact ⟨vk, blk_out h1 hgqU ho, row_outF h2 ho⟩⟩) (fun _ _ _ _ _ h _ => h) (fun _ => ⟨gb_refl _ _, _, hK.out, World.ownsRow_nil _ _ _ _⟩) ?rd ?dn ?st
  case st => intro m c pre W' _ h; exact h.elim
  case rd =>
    rintro m l pre p W ⟨hg, vk, hk, hr⟩ hsz hpre Kk hKk
    replace hg := Lib.hid hg
    replace hk := Lib.hid hk
    replace hr := Lib.hid hr
    replace hKk := Lib.hid hKk
    have hpl := hpre.length_le
    rw [List.length_append, List.length_singleton, ← hn0.out] at hpl
    clear hpre
    simp only [leafV, leafE]
    gi_wp2_with fail
    refine hKk.out _ _ ((KeepB.refl _ W).alloc (fun k hk => by rcases hk with h | h; exact h.elim; omega) _) ?_
    intro o
    have xp := blk_put (Blk.new W 38 #[.bool false, .string (natS p.1.1), .string (natS p.1.2), .bool false, .string (natS p.2.1), .string (natS p.2.2)]) (show W.heap.size ≠ U.heap.size + 1 by omega) o
    have xk := blk_put (hk.out.alloc (.cells #[.bool false, .string (natS p.1.1), .string (natS p.1.2), .bool false, .string (natS p.2.1), .string (natS p.2.2)] 38)) (show gq ≠ U.heap.size + 1 by omega) o
    have xr := own_put (LRow.alloc hr.out (.cells #[.bool false, .string (natS p.1.1), .string (natS p.1.2), .bool false, .string (natS p.2.1), .string (natS p.2.2)] 38)) (r := U.heap.size + 1) (fun e => by have := (World.ownsRow.lt hr.out _ e).1; omega) o
    have xg : U.grownBy ((W.alloc (.cells #[.bool false, .string (natS p.1.1), .string (natS p.1.2), .bool false, .string (natS p.2.1), .string (natS p.2.2)] 38)).putObj (U.heap.size + 1) o) (some gq) := gb_out (hi := U.heap.size + 2) hg.out (((OutB.refl _ _ W).alloc _).put (by omega) (by omega) o)
    have xz : ((W.alloc (.cells #[.bool false, .string (natS p.1.1), .string (natS p.1.2), .bool false, .string (natS p.2.1), .string (natS p.2.2)] 38)).putObj (U.heap.size + 1) o).heap.size = W.heap.size + 1 := by simp
    obtain ⟨gp, hgp⟩ : ∃ g, g = W.heap.size := ⟨_, rfl⟩
    generalize hxx : (W.alloc (.cells #[.bool false, .string (natS p.1.1), .string (natS p.1.2), .bool false, .string (natS p.2.1), .string (natS p.2.2)] 38)).putObj (U.heap.size + 1) o = X at xp xk xr xg xz ⊢
    rw [← hgp] at xp xz hsz ⊢
    clear hxx hgp hg hKk hk hr
    obtain ⟨Ak, ck, rfl, -⟩ := LRow.form xr
    have hXU : U.heap.size + 2 + m ≤ X.heap.size := by omega
    have b0 : X.cell? ⟨gp, 0, none⟩ = some (.bool false) := xp.cell 0
    have b1 : X.cell? ⟨gp, 1, none⟩ = some (.string (natS p.1.1)) := xp.cell 1
    have b2 : X.cell? ⟨gp, 2, none⟩ = some (.string (natS p.1.2)) := xp.cell 2
    have b3 : X.cell? ⟨gp, 3, none⟩ = some (.bool false) := xp.cell 3
    have b4 : X.cell? ⟨gp, 4, none⟩ = some (.string (natS p.2.1)) := xp.cell 4
    have b5 : X.cell? ⟨gp, 5, none⟩ = some (.string (natS p.2.2)) := xp.cell 5
    have k0 : X.cell? ⟨gq, 0, none⟩ = some (.slice Ak pre.length ck) := xk.cell 0
    replace xk := Lib.hid xk
    replace xr := Lib.hid xr
    replace xg := Lib.hid xg
    clear xp
    obtain ⟨i0, hi, hz0, hz1, hz2⟩ := info_parts info_leafI
    have hp4 : pre.length ≤ 4096 := by omega
    gi_wp2_with (gi_at_builtin; refine wpListIn_append_own _ rfl _ _ 27 rfl (U.heap.size + 2 + m) 38 i0 (.agg #[.bool false, .string ⟨#[]⟩, .string ⟨#[]⟩, .bool false, .string ⟨#[]⟩, .string ⟨#[]⟩]) 6 80 Tryz.underlying27 hi hz0 hz1 hz2 ?g1 ?g2 (.slice Ak pre.length ck) pre.length (flatL pre) ?g3 ?g4 ⟨X.heap.size, 0, none⟩ 1 1 (leafE p) ?g5 ?g6 ?g7 ?g8 ?g9 ?g10 ?g11 ?gK)
    case g1 => rfl
    case g2 => decide
    case g3 => rfl
    case g4 => exact World.ownsRow.alloc xr.out (.cells #[.bool false, .string (natS p.1.1), .string (natS p.1.2), .bool false, .string (natS p.2.1), .string (natS p.2.2)] 38)
    case g5 => simp [Act.eval, Act.put, xz]
    case g6 => rfl
    case g7 => exact leaf_news (Blk.new X 38 (leafE p).toArray)
    case g8 => exact leaf_one p
    case g9 => unfold maxLen; omega
    case g10 => omega
    case g11 => simp; omega
    case gK =>
      intro v5 w4 hown5 hgrow5 _
      have hlt5 := fun k (hk : (Value.slice Ak pre.length ck).ownBlock = some k) => (World.ownsRow.lt xr.out k hk).1
      have wk := Blk.grown (Blk.alloc xk.out (.cells #[.bool false, .string (natS p.1.1), .string (natS p.1.2), .bool false, .string (natS p.2.1), .string (natS p.2.2)] 38)) hgrow5 (fun e => by have := hlt5 gq e.symm; omega)
      have zk : w4.cell? ⟨gq, 0, none⟩ = some (.slice Ak pre.length ck) := wk.cell 0
      have zf := wk.frozen 0
      have hr5 := LRow.snoc rfl hown5
      obtain ⟨A5, c5, hv5, -⟩ := LRow.form hr5
      have hX4 : X.heap.size ≤ w4.heap.size := by have := hgrow5.size; simp at this; omega
      have hg2 : Hid (U.grownBy (w4.setCell ⟨gq, 0, none⟩ v5) (some gq)) := Lib.hid ⟨(show w4.os = U.os from hgrow5.os.trans xg.out.os), (show w4.tape = U.tape from hgrow5.tape.trans xg.out.tape), (show w4.output = U.output from hgrow5.output.trans xg.out.output),
        (by have h1 := xg.out.size; simp [World.setCell]; omega), fun k hk hne => (Below.heap_setCell w4 ⟨gq, 0, none⟩ _ k (fun e => hne (by rw [e]))).trans ((hgrow5.block k (by simp; omega) (fun e => by have := hlt5 k e.symm; omega)).trans ((Below.heap_alloc X _ k (by omega)).trans (xg.out.block k hk hne)))⟩
      have hkp : Hid (KeepB (fun k => False ∨ U.heap.size ≤ k ∧ k < U.heap.size + 2 + m) X (w4.setCell ⟨gq, 0, none⟩ v5)) := Lib.hid ⟨by simp [World.setCell]; omega, fun k hk => by
        have hkU : U.heap.size ≤ k ∧ k < U.heap.size + 2 + m := by rcases hk with h | h; exact h.elim; exact h
        exact (Below.heap_setCell w4 ⟨gq, 0, none⟩ _ k (show k ≠ gq by omega)).trans ((hgrow5.block k (by simp; omega) (fun e => by have := hlt5 k e.symm; omega)).trans (Below.heap_alloc X _ k (by omega)))⟩
      have hk2 := Lib.hid (Blk.set_ wk 0 v5)
      have hr2 := Lib.hid (show LRow (w4.setCell ⟨gq, 0, none⟩ v5) (U.heap.size + 2 + m) v5 (pre ++ [p]) from ownsRow_setCell_below hr5 (a := ⟨gq, 0, none⟩) (show gq < _ by omega) _)
      replace hv5 : v5 = .slice A5 (pre.length + 1) c5 := by rw [hv5, List.length_append]; rfl
      subst hv5
      clear wk hown5 hgrow5 hr5 hX4 hlt5 xr xg xk b0 b1 b2 b3 b4 b5 k0
      gi_wp2_with fail
      exact ⟨hkp.out, hg2.out, _, hk2.out, hr2.out⟩
  case dn =>
    rintro m W ⟨hg, vk, hk, hr⟩ hMk
    have hbg : But (fun k => k = gq) U W := ⟨hg.os, hg.tape, hg.output, hg.size, fun k hk hn => hg.block k hk (fun e => hn (by injection e))⟩
    replace hB := Lib.hid (hB.out.trans (hbg.toBelow hB.out.size (fun k hk e => by have := hgq.out; omega)))
    have hUs : w.heap.size < U.heap.size := by have := hgq.out; omega
    have hr2 : Hid (LRow W w.heap.size vk L) := Lib.hid (row_monoL hr (by omega))
    have hne : Hid (vk.ownBlock ≠ some U.heap.size) := Lib.hid (fun e => by have := (World.ownsRow.lt hr _ e).1; omega)
    have k0 : W.cell? ⟨gq, 0, none⟩ = some vk := hk.cell 0
    have hMk2 := Lib.hid hMk
    have hUw : w.heap.size ≤ U.heap.size := by omega
    clear hbg hg hk hr hMk hI hS hK
    dsimp only
    generalize hDg : U.heap.size = D1 at hMk2 hne hUw ⊢
    clear hDg
    go_wp2_with fail
    refine leaves_one hMk2.out (P := Tryz.prog) (fn := Tryz.f52) (v := vk) (by simp [results, Tryz.results52, go_sem]) ⟨_, rfl, own_put hr2.out hne.out _, below_put hB.out hUw _⟩
end Go.Proofs.YtoaggmegmgdgbaaGreat
