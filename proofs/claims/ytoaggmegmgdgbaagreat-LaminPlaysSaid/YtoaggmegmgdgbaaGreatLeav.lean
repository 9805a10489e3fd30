import Derived.Test.YtoaggmegmgdgbaaGreatLamR
import Derived.Test.YtoaggmegmgdgbaaGreatLeave
namespace Go.Proofs.YtoaggmegmgdgbaaGreat
open Go.RowKit Go.Sort
attribute [local go_sem] Oper.semAt_some
theorem row_keep {S : Nat → Prop} {A B : World} {base : Nat} {v : Value} {L : List Lf} (h : LRow A base v L) (hk : KeepB S A B) (hS : ∀ k, v.ownBlock = some k → S k) : LRow B base v L := by
  obtain ⟨h1, h2⟩ := h
  refine ⟨h1, h2.imp id ?_⟩
  rintro ⟨g, cap, cur, rfl, hb, hg, rest⟩
  exact ⟨g, cap, cur, rfl, hb, (hk.block g (hS g rfl)).trans hg, rest⟩
set_option maxRecDepth 100000 in
set_option maxHeartbeats 2000000 in
theorem lLeavesP_any (pv : Value) (h1 : pv.oneCell' = true) (hp : pv.cells = #[pv]) (w : World) :
    Calls Tryz.prog 41 #[pv] w fun e w' => e = .returned (.func (.func 93) #[] #[.pointer (some ⟨w.heap.size, 0, none⟩)]) ∧ w' = w.alloc (.cells #[pv] 63) := by
  go_enter Tryz.func41, Tryz.ntmps41
  go_wp2_with fail
  go_ret
  simp [hp]
set_option maxRecDepth 100000 in
set_option maxHeartbeats 2000000 in
theorem lLeaves_iter (gx B x : Nat) (v : Value) (L : List Lf) (w0 : World) (hx : Blk w0 gx 63 #[.pointer (some ⟨x, 0, none⟩)]) (hS : LamS w0 B x v L) :
    IterB Tryz.prog 93 #[.pointer (some ⟨gx, 0, none⟩)] (fun (l : Lf) => #[leafV l]) L (fun _ => False) w0 := by
  intro l J Jx W hW hJ hJx hY h0
  replace hx := Lib.hid (hx.below hW)
  replace hS := Lib.hid (hS.below hW)
  obtain ⟨A, c, rfl, hA⟩ := LRow.form hS.out.lam.row
  have hN : Hid (∀ W', LamS W' B x (.slice A L.length c) L → Calls Tryz.prog 76 #[.pointer (some ⟨x, 0, none⟩)] W' (RetVal (.bool false) W')) := Lib.hid (fun W' h => lnone_any x true _ W' h.lam.blk)
  have hCl : Hid (∀ W', LamS W' B x (.slice A L.length c) L → Calls Tryz.prog 90 #[.slice A L.length c] W' fun e w' => ∃ v', e = .returned v' ∧ Hid (LRow w' W'.heap.size v' L) ∧ Hid (Below W'.heap.size W' w')) := Lib.hid (fun W' h => lcloneL B _ L W' h.lam.row (Nat.le_trans h.len (by decide)))
  obtain ⟨n, hn⟩ : ∃ n, n = L.length := ⟨_, rfl⟩
  rw [← hn] at hN hCl hS
  have hn4 : n ≤ 4096 := by rw [hn]; exact hS.out.len
  replace hn := Lib.hid hn
  replace hJ := Lib.hid hJ
  replace hJx := Lib.hid hJx
  replace hY := Lib.hid hY
  replace h0 := Lib.hid h0
  have hBW := Lib.hid (Below.refl W.heap.size W)
  have x0 : W.cell? ⟨gx, 0, none⟩ = some (.pointer (some ⟨x, 0, none⟩)) := hx.out.cell 0
  clear hA hW
  refine callsIn_of_wp Tryz.func93 rfl trivial ?_ rfl
  simp only [Tryz.ntmps93, List.size_toArray, List.length_cons, List.length_nil, Nat.reduceAdd, Nat.reduceSub, Array.replicate_succ, Array.replicate_zero, List.push_toArray, List.append_toArray, List.nil_append, List.cons_append]
  refine wpIn_wide.2 ?_
  go_wp2_with fail
  refine (hN.out _ hS.out).mono ?_
  rintro e w2 ⟨rfl, hb⟩
  replace hBW := Lib.hid (hBW.out.trans (hb.mono hBW.out.size))
  replace hS := Lib.hid (hS.out.below hb)
  replace hx := Lib.hid (Blk.below hx.out hb)
  clear hb hN x0
  have x0 : w2.cell? ⟨gx, 0, none⟩ = some (.pointer (some ⟨x, 0, none⟩)) := hx.out.cell 0
  have x1 : w2.cell? ⟨x, 1, none⟩ = some (.slice A n c) := hS.out.lam.blk.cell 1
  go_wp2_with fail
  refine (hCl.out _ hS.out).mono ?_
  rintro e w3 ⟨v3, rfl, hr3, hb3⟩
  have hb := Lib.hid (hBW.out.trans (hb3.out.mono hBW.out.size))
  replace hr3 := Lib.hid (row_monoL hr3.out hBW.out.size)
  clear hBW hb3 hCl hS hx x0 x1
  obtain ⟨m, hm⟩ : ∃ m, W.heap.size + m = w3.heap.size := ⟨w3.heap.size - W.heap.size, by have := hb.out.size; omega⟩
  have hJ0 := Lib.hid (hJ.out m [] W w3 (h0.out m) (outB_of_below hb.out))
  have hown : Hid (∀ k, v3.ownBlock = some k → W.heap.size ≤ k ∧ k < W.heap.size + m) := Lib.hid (fun k hk => by
    have := World.ownsRow.lt hr3.out k hk
    omega)
  obtain ⟨A3, c3, hv3, hA3⟩ := LRow.form hr3.out
  subst hv3
  rw [← hn.out] at hown hr3 hA3 ⊢
  clear hb h0
  go_wp2_with fail
  go_loopw [13] (fun cc wr => ∃ (i : Nat), cc = .int .i64 (i : Int) ∧ i ≤ n ∧ Hid (LRow wr W.heap.size (.slice A3 n c3) L) ∧ Hid (J m (L.take i) wr) ∧ w3.heap.size ≤ wr.heap.size) (fun cc _ => n - (intOf cc).toNat)
  case atStart => exact ⟨0, rfl, Nat.zero_le _, hr3, hJ0, Nat.le_refl _⟩
  case round =>
    obtain ⟨i, rfl, hin, hr, hJi, hsz⟩ := hrel
    by_cases hlt : i < n
    · have hil : i < L.length := by rw [← hn.out]; exact hlt
      obtain ⟨g, rfl⟩ := hA3 (by omega)
      obtain ⟨q, hq⟩ : ∃ q, q = L[i]! := ⟨_, rfl⟩
      have hC := LRow.cell (by have h := hr.out; rw [hn.out] at h; exact h) hil
      rw [← hq] at hC
      have m0 : wr.cell? ⟨g, i * 6, none⟩ = some (.bool false) := hC 0 _ rfl
      have m1 : wr.cell? ⟨g, i * 6 + 1, none⟩ = some (.string (natS q.1.1)) := hC 1 _ rfl
      have m2 : wr.cell? ⟨g, i * 6 + 2, none⟩ = some (.string (natS q.1.2)) := hC 2 _ rfl
      have m3 : wr.cell? ⟨g, i * 6 + 3, none⟩ = some (.bool false) := hC 3 _ rfl
      have m4 : wr.cell? ⟨g, i * 6 + 4, none⟩ = some (.string (natS q.2.1)) := hC 4 _ rfl
      have m5 : wr.cell? ⟨g, i * 6 + 5, none⟩ = some (.string (natS q.2.2)) := hC 5 _ rfl
      have hiz : (i : Int) < (n : Int) := by omega
      have hpre : Hid (L.take i ++ [q] = L.take (i + 1)) := Lib.hid (by
        rw [hq, List.take_add_one, List.getElem?_eq_getElem hil, getElem!_pos L i hil]; rfl)
      replace hq := Lib.hid hq
      clear hC
      replace hr := Lib.hid (LRow.alloc hr.out (.cells #[.bool false, .string (natS q.1.1), .string (natS q.1.2), .bool false, .string (natS q.2.1), .string (natS q.2.2)] 38))
      replace hJi := Lib.hid (hJ.out _ _ _ _ hJi.out (outB_of_below ((Below.refl wr.heap.size wr).alloc (Nat.le_refl _) (.cells #[.bool false, .string (natS q.1.1), .string (natS q.1.2), .bool false, .string (natS q.2.1), .string (natS q.2.2)] 38))))
      have hsa : w3.heap.size ≤ (wr.alloc (.cells #[.bool false, .string (natS q.1.1), .string (natS q.1.2), .bool false, .string (natS q.2.1), .string (natS q.2.2)] 38)).heap.size := by simp; omega
      obtain ⟨fn, tmps, assign, body, hy, hrd⟩ := hY.out m _ _ _ hJi.out (by omega) (by rw [hpre.out]; exact List.take_prefix _ _)
      simp only [leafV, leafE] at hy
      replace hrd := Lib.hid hrd
      have hsb : w3.heap.size ≤ (wr.alloc (.cells #[.bool false, .string (natS q.1.1), .string (natS q.1.2), .bool false, .string (natS q.2.1), .string (natS q.2.2)] 38)).heap.size := hsa
      replace hsb := Lib.hid hsb
      clear hsa
      obtain ⟨wo, hwo⟩ : ∃ wo : World, wo = wr := ⟨_, rfl⟩
      clear hwo wo
      refine (wpIn_wide (n := 0)).1 ?_
      gi_wp2_with fail
      refine ⟨rfl, hrd.out.mono ?_⟩
      rintro e w2 (⟨rfl, hJ2, hkp⟩ | ⟨rfl, hJx2⟩)
      · rw [hpre.out] at hJ2
        have hr2 : Hid (LRow w2 W.heap.size (.slice (some ⟨g, 0, none⟩) n c3) L) := Lib.hid (row_keep hr.out hkp (fun k hk => .inr (hown.out k hk)))
        have hs2 : w3.heap.size ≤ w2.heap.size := Nat.le_trans hsb.out hkp.size
        replace hJ2 := Lib.hid hJ2
        clear hkp hy hrd hr hJi
        gi_wp2_with fail
        go_roundw
        case rel => exact ⟨i + 1, by go_num, by omega, hr2, hJ2, hs2⟩
        case measure => simp [intOf]; omega
      · replace hJx2 := Lib.hid hJx2
        rw [hpre.out] at hJx2
        clear hy hrd
        gi_wp2_with fail
        refine bodyPost_ret (results_none rfl _ _ _) rfl ?_
        exact ⟨⟨_, rfl⟩, m, .inr ⟨_, List.take_prefix _ _, hJx2.out⟩⟩
    · obtain rfl : i = n := by omega
      have hJe : Hid (J m L wr) := Lib.hid (by have h := hJi.out; rwa [List.take_of_length_le (by rw [hn.out]; exact Nat.le_refl _)] at h)
      clear hr hJi
      go_wp2_with fail
      go_end0
      exact ⟨⟨_, rfl⟩, m, .inl hJe.out⟩
end Go.Proofs.YtoaggmegmgdgbaaGreat
