import Derived.Test.YtoaggmegmgdgbaaGreatGrpA
import Derived.Test.YtoaggmegmgdgbaaGreatInsL
namespace Go.Proofs.YtoaggmegmgdgbaaGreat
open Go.RowKit Go.Sort Go.Maps
theorem errG_all {b1 : Bool} {d : Int} {Ls : List RawQ} (h : errG b1 d Ls = 0) : ∀ r, r ∈ Ls → errR b1 d r = 0 := by
  unfold errG at h
  cases hf : Ls.find? (fun r => decide (errR b1 d r ≠ 0)) with
  | none =>
    intro r hr
    have := List.find?_eq_none.1 hf r hr
    simpa using this
  | some r =>
    rw [hf] at h
    have := List.find?_some hf
    simp only [decide_eq_true_eq] at this
    exact absurd h this
theorem grp_all {n1 : Bool} {a1 d1 : ByteArray} {d : Int} {Ls : List RawQ} (h : errG (okA n1 a1 d1) d Ls = 0) :
    HOk (grpE (rowK (be (sl a1)) (be (sl d1)) d.toNat) (riseL (angQ Ls))) ∧ GrpOk (rowK (be (sl a1)) (be (sl d1)) d.toNat) (grpE (rowK (be (sl a1)) (be (sl d1)) d.toNat) (riseL (angQ Ls))) ∧ ((grpE (rowK (be (sl a1)) (be (sl d1)) d.toNat) (riseL (angQ Ls))).map List.length).sum ≤ Ls.length ∧ okQ Ls = true := by
  have h0 := errG_all h
  have hokq : okQ Ls = true := List.all_eq_true.2 fun r hr => (ofE_ok (h0 r hr)).2.1
  have hA := angQ_ang hokq
  have hG := grpE_ok (κ := rowK (be (sl a1)) (be (sl d1)) d.toNat) (E := riseL (angQ Ls)) (fun p hp => hA p (riseL_mem.1 hp)) (riseL_rises hA)
  refine ⟨?_, hG, ?_, hokq⟩
  · rcases Ls with _ | ⟨r, rs⟩
    · exact hok_nil
    · obtain ⟨k1, k2, k3, k4, k5⟩ := ofE_ok (h0 r (List.mem_cons_self ..))
      exact hok (Ang.of_ok k1).1.2.1 (by omega) (by omega) hG
  · unfold grpE
    rw [grpG_total]
    have := riseL_len (angQ Ls)
    rw [angQ_len] at this
    exact this
theorem row_but {w w' : World} {S : Nat → Prop} {B n : Nat} {T : TypeId} {size : Nat} {v : Value} {xs : List Value} (h : w.ownsRow B T size v n xs) (hb : But S w w') (hn : ∀ k, v.ownBlock = some k → ¬ S k) : w'.ownsRow B T size v n xs := by
  refine ⟨h.1, ?_⟩
  rcases h.2 with h2 | ⟨g, cap, cur, hv, hg, hh, rest⟩
  · exact .inl h2
  · exact .inr ⟨g, cap, cur, hv, hg, (hb.block g (heap_some_lt hh) (hn g (by rw [hv]; rfl))).trans hh, rest⟩
theorem mem_le_sum : ∀ {l : List Nat} {x : Nat}, x ∈ l → x ≤ l.sum
  | a :: l, x, h => by
    rw [List.sum_cons]
    rcases List.mem_cons.1 h with rfl | h
    · omega
    · have := mem_le_sum h; omega
theorem len_le_sum : ∀ {G : List (List PT)}, (∀ g, g ∈ G → 0 < g.length) → G.length ≤ (G.map List.length).sum
  | [], _ => Nat.le_refl _
  | g :: G, h => by
    have h1 := len_le_sum (G := G) (fun x hx => h x (List.mem_cons_of_mem _ hx))
    have h2 := h g (List.mem_cons_self ..)
    rw [List.length_cons, List.map_cons, List.sum_cons]; omega
theorem lamS_mono {w : World} {B B' x : Nat} {v : Value} {L : List Lf} (h : LamS w B x v L) (hb : B' ≤ B) : LamS w B' x v L := ⟨⟨h.lam.blk, row_mono h.lam.row hb, Nat.le_trans hb h.lam.base⟩, h.ok, h.len⟩
set_option maxRecDepth 100000 in
set_option maxHeartbeats 8000000 in
theorem lOf_any (v : Value) (Ls : List RawQ) (n1 : Bool) (a1 d1 : ByteArray) (d : Int) (w : World) (hv : RdK 3 encQ w v Ls) (hz : ∀ r, r ∈ Ls → szQ r) (hnl : ∀ n c, v = .slice none n c → c = 0) (z1 : a1.size ≤ 9223372036854775807) (y1 : d1.size ≤ 9223372036854775807) (hlen : Ls.length ≤ 200) :
    Calls Tryz.prog 55 #[.agg #[.bool n1, .string a1, .string d1], .int .i64 d, v] w fun e w' =>
      (errG (okA n1 a1 d1) d Ls = 0 ∧ ∃ x vL, e = .returned (.tuple #[.pointer (some ⟨x, 0, none⟩), .int .i64 0]) ∧ LamS w' w.heap.size x vL (addF ((grpE (rowK (be (sl a1)) (be (sl d1)) d.toNat) (riseL (angQ Ls))).flatMap hullL)) ∧ Below w.heap.size w w') ∨
      (errG (okA n1 a1 d1) d Ls ≠ 0 ∧ e = .returned (.tuple #[.pointer none, .int .i64 (errG (okA n1 a1 d1) d Ls)]) ∧ Below w.heap.size w w') := by
  have hB := Lib.hid (show Below w.heap.size w (w.alloc (.cells #[.bool n1, .string a1, .string d1] 26)) from (Below.refl _ w).alloc (Nat.le_refl _) _)
  have kBy := Lib.hid (Blk.new w 26 #[.bool n1, .string a1, .string d1])
  have cG := Lib.hid (fun W (hb : Below w.heap.size w W) => lGroups_any v Ls n1 a1 d1 d W (hv.below hb) hz hnl z1 y1 hlen)
  have hAll := grp_all (n1 := n1) (a1 := a1) (d1 := d1) (d := d) (Ls := Ls)
  obtain ⟨EG, hEG⟩ : ∃ e, e = errG (okA n1 a1 d1) d Ls := ⟨_, rfl⟩
  obtain ⟨G, hG⟩ : ∃ G, G = grpE (rowK (be (sl a1)) (be (sl d1)) d.toNat) (riseL (angQ Ls)) := ⟨_, rfl⟩
  rw [← hEG, ← hG] at cG hAll
  rw [← hEG, ← hG]
  obtain ⟨κ, hκ⟩ : ∃ k, k = rowK (be (sl a1)) (be (sl d1)) d.toNat := ⟨_, rfl⟩
  rw [← hκ] at hAll
  have hnf : ∃ A c, v = .slice A Ls.length c := by
    obtain ⟨A, c, hv2, -⟩ := hv
    exact ⟨A, c, hv2⟩
  clear hEG hG hv hz hnl
  obtain ⟨A, c, rfl⟩ := hnf
  obtain ⟨n, hn⟩ : ∃ n, n = Ls.length := ⟨_, rfl⟩
  rw [← hn] at cG hlen hAll ⊢
  replace hn := Lib.hid hn
  replace hκ := Lib.hid hκ
  by_cases hE : EG = 0
  case neg =>
    have hEb : (EG == 0) = false := by simpa using hE
    have cG1 : Hid (∀ W, Below w.heap.size w W → Calls Tryz.prog 54 #[.agg #[.bool n1, .string a1, .string d1], .int .i64 d, .slice A n c] W (RetVal (.tuple #[.slice none 0 0, .int .i64 EG]) W)) := Lib.hid (fun W hb => (cG.out W hb).mono (fun e w' h => by
      rcases h with h | h
      · exact absurd h.1 hE
      · exact ⟨h.2.1, h.2.2⟩))
    clear cG hAll
    go_enter Tryz.func55, Tryz.ntmps55
    go_upto_region 1 with fail
    generalize hW : w.alloc (.cells #[.bool n1, .string a1, .string d1] 26) = w1 at kBy hB ⊢
    clear hW
    have b0 : w1.cell? ⟨w.heap.size, 0, none⟩ = some (.bool n1) := kBy.out.cell 0
    have b1 : w1.cell? ⟨w.heap.size, 1, none⟩ = some (.string a1) := kBy.out.cell 1
    have b2 : w1.cell? ⟨w.heap.size, 2, none⟩ = some (.string d1) := kBy.out.cell 2
    go_wp2_with fail
    refine (cG1.out w1 hB.out).mono ?_
    rintro en w2 ⟨rfl, hb⟩
    replace hB := Lib.hid (hB.out.trans (hb.mono hB.out.size))
    clear hb cG1 b0 b1 b2
    go_wp2_with fail
    go_ret2
    exact .inr ⟨hE, rfl, hB.out⟩
  case pos =>
    subst hE
    obtain ⟨hH, hGo, hGs, -⟩ := hAll rfl
    have hHl : (G.flatMap hullL).length ≤ 200 := Nat.le_trans (allH_len G) (Nat.le_trans hGs hlen)
    have cG0 : Hid (∀ W, Below w.heap.size w W → Calls Tryz.prog 54 #[.agg #[.bool n1, .string a1, .string d1], .int .i64 d, .slice A n c] W (fun e w' => ∃ v' vs, e = .returned (.tuple #[v', .int .i64 0]) ∧ NestP w' W.heap.size 22 26 3 encP [] v' vs G ∧ Below W.heap.size W w')) := Lib.hid (fun W hb => (cG.out W hb).mono (fun e w' h => by
      rcases h with h | h
      · exact h.2
      · exact absurd rfl h.1))
    have cHull : Hid (∀ (i : Nat) (b : Nat) (u : Value) (W : World), i < G.length → W.ownsRow b 26 3 u G[i]!.length (G[i]!.flatMap encP) → Calls Tryz.prog 60 #[u] W (fun e w' => ∃ v', e = .returned v' ∧ Hid (LRow w' W.heap.size v' (hullL G[i]!)) ∧ Hid (Below W.heap.size W w'))) := Lib.hid (fun i b u W hi hr => by
      have hm := getBang_memP hi
      refine lhull_any b u G[i]! W hr (hGo.ang _ hm) (hGo.rise _ hm) ?_
      have h1 : G[i]!.length ≤ (G.map List.length).sum := mem_le_sum (List.mem_map.2 ⟨_, hm, rfl⟩)
      omega)
    have hLf : Hid (∀ i, i < G.length → ∀ j, j < (hullL G[i]!).length → Lfp (hullL G[i]!)[j]! ∧ addL (addF (preH G i j)) (hullL G[i]!)[j]! = (addF (preH G i (j + 1)), 0)) := Lib.hid (fun i hi j hj => by
      refine ⟨hH.lf _ (List.mem_flatMap.2 ⟨_, getBang_memP hi, getBang_memP hj⟩), ?_⟩
      rw [preH_step hj]
      exact addF_step hH.lf hH.nc hH.nd (by omega) (by rw [← preH_step hj]; exact preH_pre hi))
    have hFin : Hid (addF (preH G G.length 0) = addF (G.flatMap hullL)) := Lib.hid (by rw [preH_end])
    have hGn : G.length ≤ 200 := by
      have h1 : G.length ≤ (G.map List.length).sum := len_le_sum (fun g hg => List.length_pos_iff.2 (hGo.ne g hg))
      omega
    have hHn : Hid (∀ i, i < G.length → (hullL G[i]!).length ≤ 200) := Lib.hid (fun i hi => by
      have h1 := hull_len G[i]!
      have h2 : G[i]!.length ≤ (G.map List.length).sum := mem_le_sum (List.mem_map.2 ⟨_, getBang_memP hi, rfl⟩)
      omega)
    clear cG hAll hH hGo hGs hHl
    go_enter Tryz.func55, Tryz.ntmps55
    go_upto_region 1 with fail
    generalize hW : w.alloc (.cells #[.bool n1, .string a1, .string d1] 26) = w1 at kBy hB ⊢
    clear hW
    have b0 : w1.cell? ⟨w.heap.size, 0, none⟩ = some (.bool n1) := kBy.out.cell 0
    have b1 : w1.cell? ⟨w.heap.size, 1, none⟩ = some (.string a1) := kBy.out.cell 1
    have b2 : w1.cell? ⟨w.heap.size, 2, none⟩ = some (.string d1) := kBy.out.cell 2
    go_wp2_with fail
    refine (cG0.out w1 hB.out).mono ?_
    rintro en w2 ⟨v', vs, rfl, hN, hb⟩
    replace hB := Lib.hid (hB.out.trans (hb.mono hB.out.size))
    have hwb := Lib.hid hB.out.size
    obtain ⟨m, hm⟩ : ∃ m, m = G.length := ⟨_, rfl⟩
    have hvl : vs.length = m := by rw [hN.1, hm]
    obtain ⟨Au, cu, rfl, -, hAu⟩ := own_form hN.row
    rw [hvl] at hN hAu ⊢
    have hr0 : Hid (∀ i, i < m → ∀ W, Below w2.heap.size w2 W → (∀ gu, Au = some ⟨gu, 0, none⟩ → W.cell? ⟨gu, i, none⟩ = some vs[i]!) ∧ W.ownsRow w1.heap.size 26 3 vs[i]! G[i]!.length (G[i]!.flatMap encP)) := Lib.hid (fun i hi W hb => by
      have h := hN.below hb
      have hi1 : i < vs.length := by rw [hvl]; exact hi
      refine ⟨fun gu e => ?_, ?_⟩
      · subst e
        have h1 := h.row
        rw [hvl] at h1
        rw [World.ownsRow.cellAt h1 i (by omega), List.getElem?_eq_getElem hi1, getElem!_pos vs i hi1]
      · have h1 := h.inner (g := i) hi1
        rw [← getElem!_pos vs i hi1, ← getElem!_pos G i (by rw [← hm]; exact hi)] at h1
        exact h1)
    rw [← hm] at hGn
    replace hm := Lib.hid hm
    replace hAu := Lib.hid hAu
    clear hb cG0 b0 b1 b2 kBy hN hvl
    go_wp2_with fail
    refine (lNew_any _).mono ?_
    rintro en w3 ⟨rfl, rfl⟩
    have hBl := Blk.new w2 103 #[.bool true, .slice none 0 0]
    have hC := Lib.hid (show Below w2.heap.size w2 (w2.alloc (.cells #[.bool true, .slice none 0 0] 103)) from (Below.refl _ w2).alloc (Nat.le_refl _) _)
    replace hB := Lib.hid (hB.out.alloc hB.out.size (.cells #[.bool true, .slice none 0 0] 103))
    generalize hW : w2.alloc (.cells #[.bool true, .slice none 0 0] 103) = w3 at hBl hC hB ⊢
    obtain ⟨x, hx⟩ : ∃ x, x = w2.heap.size := ⟨_, rfl⟩
    have hxb : w2.heap.size ≤ x := by omega
    rw [← hx] at hBl ⊢
    have hL : Hid (LamS w3 w2.heap.size x (.slice none 0 0) (addF (preH G 0 0))) := Lib.hid (by rw [preH_zero]; exact ⟨⟨hBl, World.ownsRow_nil _ _ _ _, hxb⟩, LOk.nil, Nat.zero_le _⟩)
    replace hx := Lib.hid hx
    clear hW hBl hxb
    go_wp2_with fail
    go_loopg [29] m (fun kx s29 wr => ∃ (i : Nat) (vL : Value), s29 = .int .i64 (i : Int) ∧ i ≤ m ∧ m - i ≤ kx ∧ Hid (LamS wr w2.heap.size x vL (addF (preH G i 0))) ∧ Hid (Below w2.heap.size w2 wr) ∧ Hid (Below w.heap.size w wr))
    case atStart => exact ⟨0, _, rfl, Nat.zero_le _, Nat.le_refl _, hL, hC, hB⟩
    case round =>
      clear hL hC hB
      obtain ⟨i, vL, rfl, hin, hg, hL, hC, hB⟩ := hrel
      by_cases hlt : i < m
      case neg =>
        obtain rfl : m = i := by omega
        go_wp2_with fail
        go_ret2
        refine .inl ⟨trivial, x, vL, rfl, ?_, hB.out⟩
        have h := hL.out
        rw [hm.out, hFin.out] at h
        exact lamS_mono h hwb.out
      case pos =>
        obtain ⟨gu, rfl⟩ := hAu.out (by omega)
        obtain ⟨ui, hui⟩ : ∃ u, u = vs[i]! := ⟨_, rfl⟩
        have c0 : wr.cell? ⟨gu, i, none⟩ = some ui := by rw [hui]; exact (hr0.out i hlt wr hC.out).1 gu rfl
        have hrow : Hid (wr.ownsRow w1.heap.size 26 3 ui G[i]!.length (G[i]!.flatMap encP)) := Lib.hid (by rw [hui]; exact (hr0.out i hlt wr hC.out).2)
        have cH := Lib.hid (cHull.out i w1.heap.size ui wr (by rw [← hm.out]; exact hlt) hrow.out)
        obtain ⟨H, hH⟩ : ∃ H, H = hullL G[i]! := ⟨_, rfl⟩
        rw [← hH] at cH
        have hLfi := Lib.hid (hLf.out i (by rw [← hm.out]; exact hlt))
        have hHni := hHn.out i (by rw [← hm.out]; exact hlt)
        rw [← hH] at hLfi hHni
        have hnx : Hid (preH G i H.length = preH G (i + 1) 0) := Lib.hid (by rw [hH]; exact preH_next (by rw [← hm.out]; exact hlt))
        have hiz : (i : Int) < (m : Int) := by omega
        have hwi : Hid (IntKind.i64.wrap ((i : Int) + 1) = (i : Int) + 1) := Lib.hid (by rw [IntKind.wrap_i64]; omega)
        replace hui := Lib.hid hui
        replace hH := Lib.hid hH
        clear hrow
        go_wp2_with fail
        refine cH.out.mono ?_
        rintro en w4 ⟨vh, rfl, hRh, hb0⟩
        have hb := hb0.out
        obtain ⟨mh, hmh⟩ : ∃ m, m = H.length := ⟨_, rfl⟩
        obtain ⟨Ah, ch, rfl, hAh⟩ := LRow.form hRh.out
        have hfar : Hid (∀ k, (Value.slice Ah H.length ch).ownBlock = some k → k ≠ x ∧ vL.ownBlock ≠ some k) := Lib.hid (fun k hk => by
          have h1 := (World.ownsRow.lt hRh.out k hk).1
          have h2 := hL.out.lam.old
          refine ⟨fun e => ?_, fun e => ?_⟩
          · have := (h2 x (.inl rfl)).2; omega
          · have := (h2 k (.inr e)).2; omega)
        replace hL := Lib.hid (hL.out.below hb)
        replace hC := Lib.hid (hC.out.trans (hb.mono hC.out.size))
        replace hB := Lib.hid (hB.out.trans (hb.mono hB.out.size))
        rw [← hmh] at hRh hfar hHni hnx hAh hLfi ⊢
        replace hmh := Lib.hid hmh
        replace hAh := Lib.hid hAh
        clear hb hb0 cH c0
        go_wp2_with fail
        go_loopg [36] mh (fun kx s36 wr => ∃ (j : Nat) (vL : Value), s36 = .int .i64 (j : Int) ∧ j ≤ mh ∧ mh - j ≤ kx ∧ Hid (LamS wr w2.heap.size x vL (addF (preH G i j))) ∧ Hid (∃ b, LRow wr b (.slice Ah mh ch) H) ∧ Hid (∀ k, (Value.slice Ah mh ch).ownBlock = some k → k ≠ x ∧ vL.ownBlock ≠ some k) ∧ Hid (Below w2.heap.size w2 wr) ∧ Hid (Below w.heap.size w wr))
        case atStart => exact ⟨0, vL, rfl, Nat.zero_le _, Nat.le_refl _, hL, Lib.hid ⟨_, hRh.out⟩, hfar, hC, hB⟩
        case round =>
          clear hL hRh hfar hC hB
          obtain ⟨j, vL, rfl, hjm, hgj, hL, hRh, hfar, hC, hB⟩ := hrel
          by_cases hlj : j < mh
          case neg =>
            obtain rfl : mh = j := by omega
            have hwi := hwi.out
            rw [hnx.out] at hL
            go_wp2_with fail
            go_roundg (m - (i + 1))
            case measure => omega
            case rel => exact ⟨i + 1, vL, by simp, by omega, Nat.le_refl _, hL, hC, hB⟩
          case pos =>
            obtain ⟨gh, hgh⟩ := hAh.out (by omega)
            subst hgh
            obtain ⟨l, hl⟩ : ∃ l, l = H[j]! := ⟨_, rfl⟩
            obtain ⟨hlp, hadd⟩ := hLfi.out j hlj
            rw [← hl] at hlp hadd
            have hC6 : ∀ (q : Nat) (u : Value), (leafE l)[q]? = some u → wr.cell? ⟨gh, j * 6 + q, none⟩ = some u := by
              obtain ⟨b, h⟩ := hRh.out
              rw [hl]
              exact LRow.cell h (by rw [← hmh.out]; exact hlj)
            have p0 : wr.cell? ⟨gh, j * 6, none⟩ = some (.bool false) := hC6 0 _ rfl
            have p1 : wr.cell? ⟨gh, j * 6 + 1, none⟩ = some (.string (natS l.1.1)) := hC6 1 _ rfl
            have p2 : wr.cell? ⟨gh, j * 6 + 2, none⟩ = some (.string (natS l.1.2)) := hC6 2 _ rfl
            have p3 : wr.cell? ⟨gh, j * 6 + 3, none⟩ = some (.bool false) := hC6 3 _ rfl
            have p4 : wr.cell? ⟨gh, j * 6 + 4, none⟩ = some (.string (natS l.2.1)) := hC6 4 _ rfl
            have p5 : wr.cell? ⟨gh, j * 6 + 5, none⟩ = some (.string (natS l.2.2)) := hC6 5 _ rfl
            have hjz : (j : Int) < (mh : Int) := by omega
            have hwj : Hid (IntKind.i64.wrap ((j : Int) + 1) = (j : Int) + 1) := Lib.hid (by rw [IntKind.wrap_i64]; omega)
            replace hl := Lib.hid hl
            replace hlp := Lib.hid hlp
            replace hadd := Lib.hid hadd
            clear hC6
            go_upto_region 11 with fail
            have kF := Lib.hid (Blk.new wr 38 #[.bool false, .string (natS l.1.1), .string (natS l.1.2), .bool false, .string (natS l.2.1), .string (natS l.2.2)])
            have hRlt : Hid (∀ k, (Value.slice (some ⟨gh, 0, none⟩) mh ch).ownBlock = some k → k < (wr.alloc (.cells #[.bool false, .string (natS l.1.1), .string (natS l.1.2), .bool false, .string (natS l.2.1), .string (natS l.2.2)] 38)).heap.size) := Lib.hid (fun k hk => by
              obtain ⟨b, h⟩ := hRh.out
              have := (World.ownsRow.lt h k hk).2
              simp; omega)
            replace hL := Lib.hid (hL.out.alloc (.cells #[.bool false, .string (natS l.1.1), .string (natS l.1.2), .bool false, .string (natS l.2.1), .string (natS l.2.2)] 38))
            replace hRh : Hid (∃ b, LRow (wr.alloc (.cells #[.bool false, .string (natS l.1.1), .string (natS l.1.2), .bool false, .string (natS l.2.1), .string (natS l.2.2)] 38)) b (.slice (some ⟨gh, 0, none⟩) mh ch) H) := Lib.hid (by
              obtain ⟨b, h⟩ := hRh.out
              exact ⟨b, World.ownsRow.alloc h _⟩)
            replace hC := Lib.hid (hC.out.alloc hC.out.size (.cells #[.bool false, .string (natS l.1.1), .string (natS l.1.2), .bool false, .string (natS l.2.1), .string (natS l.2.2)] 38))
            replace hB := Lib.hid (hB.out.alloc hB.out.size (.cells #[.bool false, .string (natS l.1.1), .string (natS l.1.2), .bool false, .string (natS l.2.1), .string (natS l.2.2)] 38))
            generalize hW : wr.alloc (.cells #[.bool false, .string (natS l.1.1), .string (natS l.1.2), .bool false, .string (natS l.2.1), .string (natS l.2.2)] 38) = w5 at kF hRlt hL hRh hC hB ⊢
            generalize hgg : wr.heap.size = gF at kF ⊢
            clear hW hgg p0 p1 p2 p3 p4 p5
            have p0 : w5.cell? ⟨gF, 0, none⟩ = some (.bool false) := kF.out.cell 0
            have p1 : w5.cell? ⟨gF, 1, none⟩ = some (.string (natS l.1.1)) := kF.out.cell 1
            have p2 : w5.cell? ⟨gF, 2, none⟩ = some (.string (natS l.1.2)) := kF.out.cell 2
            have p3 : w5.cell? ⟨gF, 3, none⟩ = some (.bool false) := kF.out.cell 3
            have p4 : w5.cell? ⟨gF, 4, none⟩ = some (.string (natS l.2.1)) := kF.out.cell 4
            have p5 : w5.cell? ⟨gF, 5, none⟩ = some (.string (natS l.2.2)) := kF.out.cell 5
            go_wp2_with fail
            refine (lAdd_leafL _ x vL _ l w5 hL.out hlp.out).mono ?_
            rintro en w6 ⟨rfl, vN, hS6, hbut, hloc⟩
            rw [hadd.out] at hS6 ⊢
            have hold := Lib.hid hL.out.lam.old
            have hC6 : Hid (Below w2.heap.size w2 w6) := Lib.hid (hC.out.trans (hbut.toBelow hC.out.size (fun k hk hr => absurd (hold.out k hr).1 (Nat.not_le.2 hk))))
            have hB6 : Hid (Below w.heap.size w w6) := Lib.hid (hB.out.trans (hbut.toBelow hB.out.size (fun k hk hr => absurd (Nat.le_trans hwb.out (hold.out k hr).1) (Nat.not_le.2 hk))))
            have hR6 : Hid (∃ b, LRow w6 b (.slice (some ⟨gh, 0, none⟩) mh ch) H) := Lib.hid (by
              obtain ⟨b, h⟩ := hRh.out
              refine ⟨b, row_but h hbut (fun k hk hS => ?_)⟩
              have h1 := hfar.out k hk
              rcases hS with e | e
              · exact h1.1 e
              · exact h1.2 e)
            have hfar6 : Hid (∀ k, (Value.slice (some ⟨gh, 0, none⟩) mh ch).ownBlock = some k → k ≠ x ∧ vN.ownBlock ≠ some k) := Lib.hid (fun k hk => by
              have h1 := hfar.out k hk
              refine ⟨h1.1, fun e => ?_⟩
              rcases hloc with h | ⟨q, h, h2⟩
              · rw [h] at e; exact h1.2 e
              · rw [h] at e
                injection e with e
                have := hRlt.out k hk
                omega)
            have hS6 := Lib.hid hS6
            have hwj := hwj.out
            clear hloc hbut hL hRh hfar hC hB hadd p0 p1 p2 p3 p4 p5 kF hRlt
            go_wp2_with fail
            go_roundg (mh - (j + 1))
            case measure => omega
            case rel => exact ⟨j + 1, vN, by simp, by omega, Nat.le_refl _, hS6, hR6, hfar6, hC6, hB6⟩
end Go.Proofs.YtoaggmegmgdgbaaGreat
