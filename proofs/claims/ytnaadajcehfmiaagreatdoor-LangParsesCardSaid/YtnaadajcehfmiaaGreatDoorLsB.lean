/- lang.shape: the walk. -/
import Derived.Test.YtnaadajcehfmiaaGreatDoorLsA
namespace Go.Proofs.YtnaadajcehfmiaaGreatDoor
open Go.RowKit Go.Sort Go.Maps

theorem bndK_le (k : Nat) : 1 ≤ bndK k ∧ bndK k ≤ 5 := by
  unfold bndK
  (repeat' split) <;> omega
theorem keep_set1 {W : World} {b j g i : Nat} {u v : Value} (h : W.cell? ⟨b, j, none⟩ = some u) (hne : b ≠ g) : (W.setCell ⟨g, i, none⟩ v).cell? ⟨b, j, none⟩ = some u := by
  unfold World.cell? at h ⊢
  rw [Below.heap_setCell W ⟨g, i, none⟩ v b hne]
  exact h
section
variable {B bp bu bh gu gh nn : Nat} {vN vL : Value} {m : Int} {w W W' : World} {U : List Bool} {H : List Nat}
theorem sh1_full {bx : Nat} {cs : Array Value} (h : ShS B bp bu bh gu gh nn vN vL m W U H) (kb : Blk W bx 52 cs) (hB : Below B w W) (a : Int) (i : Nat) (hi : i < nn) (hn : nn ≤ 4096) {W' : World} (hb : Below W.heap.size W W') (hBs : B ≤ W.heap.size) :
    Calls Tryz.prog 74 #[.int .i64 a, .int .i64 (i : Int), .pointer (some ⟨bu, 0, none⟩), .pointer (some ⟨bh, 0, none⟩)] W' (fun e w' => e = .returned (.int .i64 (ofH U H a i : Int)) ∧ Hid (ShS B bp bu bh gu gh nn vN vL m w' (ofU U a i) H) ∧ Hid (Blk w' bx 52 cs) ∧ Hid (Below B w w') ∧ w'.cell? ⟨bh, 0, none⟩ = some (.slice (some ⟨gh, 0, none⟩) nn nn) ∧ w'.frozen? ⟨gh, i, none⟩ = false ∧ ∃ y : Nat, w'.cell? ⟨gh, i, none⟩ = some (.int .i64 (y : Int))) := by
  have hS := h.below hb
  have kb2 := kb.below hb
  refine (sh1 hS a i hi hn).mono fun e w' hw => ⟨hw.1, ?_⟩
  rw [hw.2]
  have hS7 := hS.used a i
  exact ⟨Lib.hid hS7, Lib.hid (usedW_blk kb2 (blkL_ne kb2 hS.u (by decide)) a i), Lib.hid ((hB.trans (hb.mono hBs)).trans (usedW_below hS.gu a i)), hS7.bh.cell 0, hS7.h.frozen i, _, ihs_cell hS7.h (List.getElem?_eq_getElem (by rw [hS7.hl]; exact hi))⟩
end
set_option maxRecDepth 100000 in
set_option maxHeartbeats 8000000 in
/-- lang.shape -/
theorem lShape_any {N : List RNo} {Ls : List RLt} {vN vL : Value} {m : Int} {w : World} (hN : NodesK w.heap.size w vN N) (hL : LetsK w.heap.size w vL Ls) :
    Calls Tryz.prog 63 #[.agg #[vN, vL, .int .i64 m]] w (fun e w' => ∃ v, e = .returned (.tuple #[v, .bool (shapeW N Ls m)]) ∧ Below w.heap.size w w') := by
  obtain ⟨AN, cN, hvN, hNc⟩ := hN
  obtain ⟨AL, cL, hvL, hLc⟩ := hL
  obtain ⟨nn, hnn⟩ : ∃ n, n = N.length := ⟨_, rfl⟩
  obtain ⟨nl, hnl⟩ : ∃ n, n = Ls.length := ⟨_, rfl⟩
  obtain ⟨RS, hRS⟩ : ∃ r, r = shapeW N Ls m := ⟨_, rfl⟩
  rw [← hRS]
  unfold shapeW at hRS
  rw [← hnn] at hvN hNc hRS
  rw [← hnl] at hvL hLc hRS
  subst hvN hvL
  replace hnn := Lib.hid hnn
  replace hnl := Lib.hid hnl
  replace hNc := Lib.hid hNc
  replace hLc := Lib.hid hLc
  obtain ⟨OB, hOB⟩ : ∃ o, o = Obj.cells #[.slice AN nn cN, .slice AL nl cL, .int .i64 m] 25 (0, 0) := ⟨_, rfl⟩
  have hb1 : Below w.heap.size w (w.alloc OB) := (Below.refl _ w).alloc (Nat.le_refl _) _
  have kp : Blk (w.alloc OB) w.heap.size 25 #[.slice AN nn cN, .slice AL nl cL, .int .i64 m] := by rw [hOB]; exact Blk.new w _ _
  generalize hW : w.alloc OB = w1 at hb1 kp
  have p0 : w1.cell? ⟨w.heap.size, 0, none⟩ = some (.slice AN nn cN) := kp.cell 0
  have p1 : w1.cell? ⟨w.heap.size, 1, none⟩ = some (.slice AL nl cL) := kp.cell 1
  have p2 : w1.cell? ⟨w.heap.size, 2, none⟩ = some (.int .i64 m) := kp.cell 2
  replace hW := Lib.hid hW
  replace hOB := Lib.hid hOB
  replace hb1 := Lib.hid hb1
  replace kp := Lib.hid kp
  by_cases hc : nn = 0
  case pos =>
    have hbad : shapP nn nl m := .inl hc
    rw [if_pos hbad] at hRS
    have hI0 : ((nn : Int) == 0) = true := by rw [beq_iff_eq]; omega
    subst hRS
    clear hbad hc
    go_enter Tryz.func63, Tryz.ntmps63
    go_upto_region 1 with fail
    rw [← hOB.out, hW.out]
    go_wp2_with fail
    go_ret2
    first | exact ⟨⟨_, rfl⟩, hb1.out⟩ | exact ⟨_, rfl, hb1.out⟩ | exact hb1.out
  case neg =>
    have hI0 : ((nn : Int) == 0) = false := by rw [beq_eq_false_iff_ne]; omega
    have hn0 := hc
    clear hc
    by_cases hc : 4096 < nn
    case pos =>
      have hbad : shapP nn nl m := .inr (.inl hc)
      rw [if_pos hbad] at hRS
      have hI1 : ((nn : Int) > 4096) := by omega
      subst hRS
      clear hbad hc
      go_enter Tryz.func63, Tryz.ntmps63
      go_upto_region 1 with fail
      rw [← hOB.out, hW.out]
      go_wp2_with fail
      go_ret2
      first | exact ⟨⟨_, rfl⟩, hb1.out⟩ | exact ⟨_, rfl, hb1.out⟩ | exact hb1.out
    case neg =>
      have hI1 : ¬ ((nn : Int) > 4096) := by omega
      have hn1 := hc
      clear hc
      by_cases hc : m < 0
      case pos =>
        have hbad : shapP nn nl m := .inr (.inr (.inl hc))
        rw [if_pos hbad] at hRS
        have hI2 : m < 0 := hc
        subst hRS
        clear hbad hc
        go_enter Tryz.func63, Tryz.ntmps63
        go_upto_region 1 with fail
        rw [← hOB.out, hW.out]
        go_wp2_with fail
        go_ret2
        first | exact ⟨⟨_, rfl⟩, hb1.out⟩ | exact ⟨_, rfl, hb1.out⟩ | exact hb1.out
      case neg =>
        have hI2 : ¬ (m < 0) := hc
        have hn2 := hc
        clear hc
        by_cases hc : (nn : Int) ≤ m
        case pos =>
          have hbad : shapP nn nl m := .inr (.inr (.inr (.inl hc)))
          rw [if_pos hbad] at hRS
          have hI3 : m ≥ (nn : Int) := hc
          subst hRS
          clear hbad hc
          go_enter Tryz.func63, Tryz.ntmps63
          go_upto_region 1 with fail
          rw [← hOB.out, hW.out]
          go_wp2_with fail
          go_ret2
          first | exact ⟨⟨_, rfl⟩, hb1.out⟩ | exact ⟨_, rfl, hb1.out⟩ | exact hb1.out
        case neg =>
          have hI3 : ¬ (m ≥ (nn : Int)) := hc
          have hn3 := hc
          clear hc
          by_cases hc : nn < nl
          case pos =>
            have hbad : shapP nn nl m := .inr (.inr (.inr (.inr hc)))
            rw [if_pos hbad] at hRS
            have hI4 : (nl : Int) > (nn : Int) := by omega
            subst hRS
            clear hbad hc
            go_enter Tryz.func63, Tryz.ntmps63
            go_upto_region 1 with fail
            rw [← hOB.out, hW.out]
            go_wp2_with fail
            go_ret2
            first | exact ⟨⟨_, rfl⟩, hb1.out⟩ | exact ⟨_, rfl, hb1.out⟩ | exact hb1.out
          case neg =>
            have hI4 : ¬ ((nl : Int) > (nn : Int)) := by omega
            have hn4 := hc
            clear hc
            have hgood : ¬ shapP nn nl m := by
              rintro (h | h | h | h | h)
              · exact hn0 h
              · exact hn1 h
              · exact hn2 h
              · exact hn3 h
              · exact hn4 h
            rw [if_neg hgood] at hRS
            have hnle : nn ≤ 4096 := by omega
            have hnpos : 0 < nn := by omega
            clear hgood hn0 hn1 hn2 hn3 hn4
            obtain ⟨g, o, hAN, hgB, hNc2⟩ := hNc.out hnpos
            subst hAN
            replace hNc2 := Lib.hid hNc2
            clear hNc
            have hmb := fun W => makeL_bool nn (by omega) W
            have hmi := fun W => makeL_int nn (by omega) W
            replace hRS := Lib.hid hRS
            have p02 : ((w1.alloc (.cells (ubL (List.replicate nn false)) 4)).alloc (.cells #[.slice (some ⟨w1.heap.size, 0, none⟩) nn nn] 104)).cell? ⟨w.heap.size, 0, none⟩ = some (.slice (some ⟨g, o, none⟩) nn cN) := ((kp.out.alloc _).alloc _).cell 0
            have p04 : ((((w1.alloc (.cells (ubL (List.replicate nn false)) 4)).alloc (.cells #[.slice (some ⟨w1.heap.size, 0, none⟩) nn nn] 104)).alloc (.cells (ihs (List.replicate nn 0)) 3)).alloc (.cells #[.slice (some ⟨w1.heap.size + 1 + 1, 0, none⟩) nn nn] 40)).cell? ⟨w.heap.size, 0, none⟩ = some (.slice (some ⟨g, o, none⟩) nn cN) := ((((kp.out.alloc _).alloc _).alloc _).alloc _).cell 0
            go_enter Tryz.func63, Tryz.ntmps63
            go_upto_region 1 with fail
            rw [← hOB.out, hW.out]
            go_upto_region 3 with fail
            go_upto_region 6 with fail
            clear hmb hmi p0 p1 p2 p02 p04
            have hS0 : Hid (ShS w.heap.size w.heap.size (w1.heap.size + 1) (w1.heap.size + 1 + 1 + 1) w1.heap.size (w1.heap.size + 1 + 1) nn (.slice (some ⟨g, o, none⟩) nn cN) (.slice AL nl cL) m ((((w1.alloc (.cells (ubL (List.replicate nn false)) 4)).alloc (.cells #[.slice (some ⟨w1.heap.size, 0, none⟩) nn nn] 104)).alloc (.cells (ihs (List.replicate nn 0)) 3)).alloc (.cells #[.slice (some ⟨w1.heap.size + 1 + 1, 0, none⟩) nn nn] 40)) (List.replicate nn false) (List.replicate nn 0)) := Lib.hid (by
              have hs := hb1.out.size
              refine ⟨(((kp.out.alloc _).alloc _).alloc _).alloc _, ?_, ?_, (((Blk.new w1 4 _).alloc _).alloc _).alloc _, ?_, by simp, by simp, fun x hx => by rw [List.eq_of_mem_replicate hx]; omega, by omega, by omega⟩
              · have e1 : (w1.alloc (.cells (ubL (List.replicate nn false)) 4)).heap.size = w1.heap.size + 1 := World.size_alloc _ _
                have h2 := ((Blk.new (w1.alloc (.cells (ubL (List.replicate nn false)) 4)) 104 #[.slice (some ⟨w1.heap.size, 0, none⟩) nn nn]).alloc (.cells (ihs (List.replicate nn 0)) 3)).alloc (.cells #[.slice (some ⟨w1.heap.size + 1 + 1, 0, none⟩) nn nn] 40)
                rw [e1] at h2
                exact h2
              · have e3 : (((w1.alloc (.cells (ubL (List.replicate nn false)) 4)).alloc (.cells #[.slice (some ⟨w1.heap.size, 0, none⟩) nn nn] 104)).alloc (.cells (ihs (List.replicate nn 0)) 3)).heap.size = w1.heap.size + 1 + 1 + 1 := by simp only [World.size_alloc]
                have h2 := Blk.new (((w1.alloc (.cells (ubL (List.replicate nn false)) 4)).alloc (.cells #[.slice (some ⟨w1.heap.size, 0, none⟩) nn nn] 104)).alloc (.cells (ihs (List.replicate nn 0)) 3)) 40 #[.slice (some ⟨w1.heap.size + 1 + 1, 0, none⟩) nn nn]
                rw [e3] at h2
                exact h2
              · have e2 : ((w1.alloc (.cells (ubL (List.replicate nn false)) 4)).alloc (.cells #[.slice (some ⟨w1.heap.size, 0, none⟩) nn nn] 104)).heap.size = w1.heap.size + 1 + 1 := by simp only [World.size_alloc]
                have h2 := (Blk.new ((w1.alloc (.cells (ubL (List.replicate nn false)) 4)).alloc (.cells #[.slice (some ⟨w1.heap.size, 0, none⟩) nn nn] 104)) 3 (ihs (List.replicate nn 0))).alloc (.cells #[.slice (some ⟨w1.heap.size + 1 + 1, 0, none⟩) nn nn] 40)
                rw [e2] at h2
                exact h2)
            have hBx : Hid (Below w.heap.size w ((((w1.alloc (.cells (ubL (List.replicate nn false)) 4)).alloc (.cells #[.slice (some ⟨w1.heap.size, 0, none⟩) nn nn] 104)).alloc (.cells (ihs (List.replicate nn 0)) 3)).alloc (.cells #[.slice (some ⟨w1.heap.size + 1 + 1, 0, none⟩) nn nn] 40))) := Lib.hid (by
              have hs := hb1.out.size
              exact (((hb1.out.alloc hs _).alloc (by rw [World.size_alloc]; omega) _).alloc (by simp only [World.size_alloc]; omega) _).alloc (by simp only [World.size_alloc]; omega) _)
            generalize hgu : w1.heap.size = gu at hS0 hBx ⊢
            have ebu : gu + 1 = gu + 1 := rfl
            generalize hX : ((((w1.alloc (.cells (ubL (List.replicate nn false)) 4)).alloc (.cells #[.slice (some ⟨gu, 0, none⟩) nn nn] 104)).alloc (.cells (ihs (List.replicate nn 0)) 3)).alloc (.cells #[.slice (some ⟨gu + 1 + 1, 0, none⟩) nn nn] 40)) = wx at hS0 hBx ⊢
            obtain ⟨bu, hbu⟩ : ∃ b, b = gu + 1 := ⟨_, rfl⟩
            obtain ⟨gh, hgh⟩ : ∃ b, b = gu + 1 + 1 := ⟨_, rfl⟩
            obtain ⟨bh, hbh⟩ : ∃ b, b = gu + 1 + 1 + 1 := ⟨_, rfl⟩
            rw [← hbh, ← hgh, ← hbu] at hS0
            try rw [← hbh]
            try rw [← hgh]
            try rw [← hbu]
            replace hgu := Lib.hid hgu
            replace hX := Lib.hid hX
            replace hbu := Lib.hid hbu
            replace hgh := Lib.hid hgh
            replace hbh := Lib.hid hbh
            clear ebu hb1 kp
            have a0 : wx.cell? ⟨w.heap.size, 0, none⟩ = some (.slice (some ⟨g, o, none⟩) nn cN) := hS0.out.p.cell 0
            go_wp2_with fail
            go_loopg [57] nn (fun kx s57 wr => ∃ (i : Nat) (U : List Bool) (H : List Nat), s57 = .int .i64 (i : Int) ∧ Hid (i + kx = nn) ∧ Hid (ShS w.heap.size w.heap.size bu bh gu gh nn (.slice (some ⟨g, o, none⟩) nn cN) (.slice AL nl cL) m wr U H) ∧ Hid (Below w.heap.size w wr) ∧ Hid (RS = if shL (N.drop i) i U H then ltL nn Ls else false))
            case atStart => exact ⟨0, _, _, rfl, Lib.hid (by omega), hS0, hBx, Lib.hid hRS.out⟩
            case round =>
              obtain ⟨i, U, H, rfl, hik, hS, hB, hL⟩ := hrel
              have l0 : wr.cell? ⟨w.heap.size, 0, none⟩ = some (.slice (some ⟨g, o, none⟩) nn cN) := hS.out.p.cell 0
              have l1 : wr.cell? ⟨w.heap.size, 1, none⟩ = some (.slice AL nl cL) := hS.out.p.cell 1
              clear hS0 hBx a0 hRS
              by_cases hin : i < nn
              case pos =>
                obtain ⟨r, hr⟩ : ∃ r, r = N[i]! := ⟨_, rfl⟩
                have hcl := fun (j : Nat) (u : Value) (hu : (encR r)[j]? = some u) => (hB.out.cell (show (⟨g, o + i * 5 + j, none⟩ : Addr).block < w.heap.size from hgB)).trans (hNc2.out i hin j u (by rw [← hr]; exact hu))
                have q0 : wr.cell? ⟨g, o + i * 5, none⟩ = some (.int .u8 (r.kind : Int)) := hcl 0 _ rfl
                have q1 : wr.cell? ⟨g, o + i * 5 + 1, none⟩ = some (.string (mkS r.text)) := hcl 1 _ rfl
                have q2 : wr.cell? ⟨g, o + i * 5 + 2, none⟩ = some (.int .i64 r.a) := hcl 2 _ rfl
                have q3 : wr.cell? ⟨g, o + i * 5 + 3, none⟩ = some (.int .i64 r.b) := hcl 3 _ rfl
                have q4 : wr.cell? ⟨g, o + i * 5 + 4, none⟩ = some (.int .i64 r.n) := hcl 4 _ rfl
                have hstep : Hid (RS = if (if shK r then false else if shapB (shX U H i r).1 r then false else shL (N.drop (i + 1)) (i + 1) (shX U H i r).2 (H.set i (shX U H i r).1)) then ltL nn Ls else false) := Lib.hid (by
                  have hd : N.drop i = r :: N.drop (i + 1) := by
                    rw [hr, getElem!_pos N i (by have := hnn.out; omega)]
                    exact List.drop_eq_getElem_cons (by have := hnn.out; omega)
                  have h0 := hL.out
                  rw [hd] at h0
                  exact h0)
                have kb := Lib.hid (Blk.new wr 52 #[.int .u8 (r.kind : Int), .string (mkS r.text), .int .i64 r.a, .int .i64 r.b, .int .i64 r.n])
                have hS1 := Lib.hid (hS.out.below ((Below.refl _ wr).alloc (Nat.le_refl _) (.cells #[.int .u8 (r.kind : Int), .string (mkS r.text), .int .i64 r.a, .int .i64 r.b, .int .i64 r.n] 52)))
                have hB1 := Lib.hid (hB.out.alloc hB.out.size (.cells #[.int .u8 (r.kind : Int), .string (mkS r.text), .int .i64 r.a, .int .i64 r.b, .int .i64 r.n] 52))
                replace hr := Lib.hid hr
                clear hcl hL hS
                go_upto_region 9 with fail
                generalize hW2 : wr.alloc (.cells #[.int .u8 (r.kind : Int), .string (mkS r.text), .int .i64 r.a, .int .i64 r.b, .int .i64 r.n] 52) = w2 at kb hS1 hB1 ⊢
                generalize hb2 : wr.heap.size = bx at kb ⊢
                replace hW2 := Lib.hid hW2
                replace hb2 := Lib.hid hb2
                clear q0 q1 q2 q3 q4 l0
                have n0 : w2.cell? ⟨bx, 0, none⟩ = some (.int .u8 (r.kind : Int)) := kb.out.cell 0
                have n1 : w2.cell? ⟨bx, 1, none⟩ = some (.string (mkS r.text)) := kb.out.cell 1
                have n2 : w2.cell? ⟨bx, 2, none⟩ = some (.int .i64 r.a) := kb.out.cell 2
                have n3 : w2.cell? ⟨bx, 3, none⟩ = some (.int .i64 r.b) := kb.out.cell 3
                have n4 : w2.cell? ⟨bx, 4, none⟩ = some (.int .i64 r.n) := kb.out.cell 4
                have hts : ((mkS r.text).size : Int) = (r.text.length : Int) := by rw [mkS_size]
                replace hts := Lib.hid hts
                by_cases hc : r.kind < 1
                case pos =>
                  have hbad : shK r := .inl hc
                  have hRf : RS = false := by rw [hstep.out, if_pos hbad]; rfl
                  have hJ0 : ((r.kind : Int) < 1) := by omega
                  subst hRf
                  clear hbad hc
                  go_wp2_with fail
                  go_ret2
                  first | exact ⟨⟨_, rfl⟩, hB1.out⟩ | exact ⟨_, rfl, hB1.out⟩ | exact hB1.out
                case neg =>
                  have hJ0 : ¬ ((r.kind : Int) < 1) := by omega
                  have hm0 := hc
                  clear hc
                  by_cases hc : 10 < r.kind
                  case pos =>
                    have hbad : shK r := .inr (.inl hc)
                    have hRf : RS = false := by rw [hstep.out, if_pos hbad]; rfl
                    have hJ1 : ((r.kind : Int) > 10) := by omega
                    subst hRf
                    clear hbad hc
                    go_wp2_with fail
                    go_ret2
                    first | exact ⟨⟨_, rfl⟩, hB1.out⟩ | exact ⟨_, rfl, hB1.out⟩ | exact hB1.out
                  case neg =>
                    have hJ1 : ¬ ((r.kind : Int) > 10) := by omega
                    have hm1 := hc
                    clear hc
                    by_cases hc : 16384 < r.text.length
                    case pos =>
                      have hbad : shK r := .inr (.inr hc)
                      have hRf : RS = false := by rw [hstep.out, if_pos hbad]; rfl
                      have hJ2 : (((mkS r.text).size : Int) > 16384) := by have := hts.out; omega
                      subst hRf
                      clear hbad hc
                      go_wp2_with fail
                      go_ret2
                      first | exact ⟨⟨_, rfl⟩, hB1.out⟩ | exact ⟨_, rfl, hB1.out⟩ | exact hB1.out
                    case neg =>
                      have hJ2 : ¬ (((mkS r.text).size : Int) > 16384) := by have := hts.out; omega
                      have hm2 := hc
                      clear hc
                      have hgood : ¬ shK r := by
                        rintro (h | h | h)
                        · exact hm0 h
                        · exact hm1 h
                        · exact hm2 h
                      replace hstep : Hid (RS = if (if shapB (shX U H i r).1 r then false else shL (N.drop (i + 1)) (i + 1) (shX U H i r).2 (H.set i (shX U H i r).1)) then ltL nn Ls else false) := Lib.hid (by rw [hstep.out, if_neg hgood])
                      have hk10 : r.kind ≤ 10 := by omega
                      clear hgood hm0 hm1 hm2
                      obtain ⟨X, hX9⟩ : ∃ X, X = shX U H i r := ⟨_, rfl⟩
                      rw [← hX9] at hstep
                      have cBd := Lib.hid (bound_any r.kind w2)
                      obtain ⟨bd, hbd⟩ : ∃ b, b = bndK r.kind := ⟨_, rfl⟩
                      rw [← hbd] at cBd
                      have hX8 := hX9
                      unfold shX at hX8
                      rw [← hbd] at hX8
                      have hbd5 : 1 ≤ bd ∧ bd ≤ 5 := by rw [hbd]; exact bndK_le _
                      replace hX9 := Lib.hid hX9
                      replace hX8 := Lib.hid hX8
                      replace hbd := Lib.hid hbd
                      replace hbd5 := Lib.hid hbd5
                      go_wp2_with fail
                      refine cBd.out.mono ?_
                      rintro en w3 ⟨rfl, rfl⟩
                      clear cBd
                      go_upto_block 2 with fail
                      have hX1 : X.1 ≤ 65 := by
                        have e := hX8.out
                        have o1 := ofH_le hS1.out U r.a i hin
                        have o2 := ofH_le hS1.out (ofU U r.a i) r.b i hin
                        rw [e]
                        split
                        · show 1 ≤ 65; omega
                        · split
                          · show 1 + _ ≤ 65; omega
                          · show 1 + max _ _ ≤ 65; omega
                      replace hX1 := Lib.hid hX1
                      go_cut [10] from 79 to 113 (fun s10 wx => ∃ W6, Hid (wx = W6.setCell ⟨gh, i, none⟩ (.int .i64 (X.1 : Int))) ∧ Hid (ShS w.heap.size w.heap.size bu bh gu gh nn (.slice (some ⟨g, o, none⟩) nn cN) (.slice AL nl cL) m W6 X.2 H) ∧ Hid (Blk W6 bx 52 #[.int .u8 (r.kind : Int), .string (mkS r.text), .int .i64 r.a, .int .i64 r.b, .int .i64 r.n]) ∧ Hid (Below w.heap.size w W6))
                      case first =>
                        have b5 : w3.cell? ⟨bh, 0, none⟩ = some (.slice (some ⟨gh, 0, none⟩) nn nn) := hS1.out.bh.cell 0
                        have fz : w3.frozen? ⟨gh, i, none⟩ = false := hS1.out.h.frozen i
                        have ce : ∃ y : Nat, w3.cell? ⟨gh, i, none⟩ = some (.int .i64 (y : Int)) := ⟨_, ihs_cell hS1.out.h (List.getElem?_eq_getElem (by rw [hS1.out.hl]; exact hin))⟩
                        obtain ⟨ye, ce⟩ := ce
                        by_cases h5 : bd = 5
                        case pos =>
                          have hXe := hX8.out
                          rw [if_pos h5] at hXe
                          have hI5 : ((bd : Int) == 5) = true := by rw [h5]; rfl
                          subst hXe
                          clear h5
                          go_wp2_with fail
                          go_meet
                          case rel => exact ⟨w3, Lib.hid rfl, hS1, kb, hB1⟩
                        case neg =>
                          have hI5 : ((bd : Int) == 5) = false := by rw [beq_eq_false_iff_ne]; omega
                          have hX7 := hX8.out
                          rw [if_neg h5] at hX7
                          replace hX8 := Lib.hid hX7
                          clear hX7
                          by_cases h3 : 3 ≤ bd
                          case pos =>
                            have hXe := hX8.out
                            rw [if_pos h3] at hXe
                            have hI3b : ((bd : Int) ≥ 3) := by omega
                            have ho := ofH_le hS1.out U r.a i hin
                            obtain ⟨oh, hoh⟩ : ∃ h, h = ofH U H r.a i := ⟨_, rfl⟩
                            have cC := Lib.hid (sh1_full hS1.out kb.out hB1.out r.a i hin hnle ((Below.refl _ w3).drew) hB1.out.size)
                            rw [← hoh] at cC ho
                            have hng1 : bh ≠ gh := blkL_ne hS1.out.bh hS1.out.h (by decide)
                            have hng2 : bx ≠ gh := blkL_ne kb.out hS1.out.h (by decide)
                            have y0 : w3.cell? ⟨bh, 0, none⟩ = some (.slice (some ⟨gh, 0, none⟩) nn nn) := hS1.out.bh.cell 0
                            have y1 : w3.cell? ⟨bx, 2, none⟩ = some (.int .i64 r.a) := kb.out.cell 2
                            rw [← hoh] at hXe
                            have hXv : X.1 = 1 + oh := by rw [hXe]
                            have hXu : X.2 = ofU U r.a i := by rw [hXe]
                            have hwr2 : IntKind.i64.wrap (1 + (oh : Int)) = 1 + (oh : Int) := by rw [IntKind.wrap_i64]; omega
                            replace hoh := Lib.hid hoh
                            replace hXe := Lib.hid hXe
                            replace hXv := Lib.hid hXv
                            replace hXu := Lib.hid hXu
                            clear h3 h5
                            go_upto_region 17 with fail
                            go_region_held3 (fun w' => w'.cell? ⟨bh, 0, none⟩ = some (.slice (some ⟨gh, 0, none⟩) nn nn) ∧ w'.cell? ⟨bx, 2, none⟩ = some (.int .i64 r.a)) (first | (have hq0 := x0; with_reducible exact ⟨keep_set1 x0 hng1, keep_set1 x1 hng2⟩) | go_keep)
                              (first
                                | (go_at_call 74; (with_reducible refine Calls.mono cC.out ?_); rintro en w8 ⟨rfl, hS8, kb8, hB8, x0, fz8, y8, ce8⟩; have x1 : w8.cell? ⟨bx, 2, none⟩ = some (.int .i64 r.a) := kb8.out.cell 2))
                            go_wp2_with fail
                            go_meet
                            case rel => exact ⟨w8, Lib.hid (by rw [hXv.out]; rfl), Lib.hid (by rw [hXu.out]; exact hS8.out), kb8, hB8⟩
                          case neg =>
                            have hXe := hX8.out
                            rw [if_neg h3] at hXe
                            have hI3b : ¬ ((bd : Int) ≥ 3) := by omega
                            have cA := Lib.hid (sh1 hS1.out r.a i hin hnle)
                            have hS6 := Lib.hid (hS1.out.used r.a i)
                            have kb6 : Hid (Blk (usedW w3 gu U r.a i) bx 52 #[.int .u8 (r.kind : Int), .string (mkS r.text), .int .i64 r.a, .int .i64 r.b, .int .i64 r.n]) := Lib.hid (usedW_blk kb.out (blkL_ne kb.out hS1.out.u (by decide)) r.a i)
                            have hB6 : Hid (Below w.heap.size w (usedW w3 gu U r.a i)) := Lib.hid (hB1.out.trans (usedW_below hS1.out.gu r.a i))
                            have ho1 := Lib.hid (ofH_le hS1.out U r.a i hin)
                            generalize hW6 : usedW w3 gu U r.a i = w4 at cA hS6 kb6 hB6
                            obtain ⟨oa, hoa⟩ : ∃ h, h = ofH U H r.a i := ⟨_, rfl⟩
                            obtain ⟨U2, hU2⟩ : ∃ h, h = ofU U r.a i := ⟨_, rfl⟩
                            rw [← hoa] at cA ho1 hXe
                            rw [← hU2] at hS6 hXe
                            replace hW6 := Lib.hid hW6
                            replace hoa := Lib.hid hoa
                            replace hU2 := Lib.hid hU2
                            replace hXe := Lib.hid hXe
                            have b6 : w4.cell? ⟨bh, 0, none⟩ = some (.slice (some ⟨gh, 0, none⟩) nn nn) := hS6.out.bh.cell 0
                            have m3 : w4.cell? ⟨bx, 3, none⟩ = some (.int .i64 r.b) := kb6.out.cell 3
                            clear h3 h5
                            go_wp2_with fail
                            refine cA.out.mono ?_
                            rintro en w5 ⟨rfl, rfl⟩
                            clear cA
                            go_upto_region 13 with fail
                            have ho := ofH_le hS6.out U2 r.b i hin
                            obtain ⟨oh, hoh⟩ : ∃ h, h = ofH U2 H r.b i := ⟨_, rfl⟩
                            have cC := Lib.hid (sh1_full hS6.out kb6.out hB6.out r.b i hin hnle ((Below.refl _ w5).drew) hB6.out.size)
                            rw [← hoh] at cC ho
                            have hng1 : bh ≠ gh := blkL_ne hS6.out.bh hS6.out.h (by decide)
                            have hng2 : bx ≠ gh := blkL_ne kb6.out hS6.out.h (by decide)
                            have y0 : w5.cell? ⟨bh, 0, none⟩ = some (.slice (some ⟨gh, 0, none⟩) nn nn) := hS6.out.bh.cell 0
                            have y1 : w5.cell? ⟨bx, 3, none⟩ = some (.int .i64 r.b) := kb6.out.cell 3
                            have hXe2 := hXe.out
                            rw [← hoh] at hXe2
                            have hXv : X.1 = 1 + max oa oh := by rw [hXe2]
                            have hXu : X.2 = ofU U2 r.b i := by rw [hXe2]
                            have ho1' := ho1.out
                            have hwr2 : IntKind.i64.wrap (1 + max (oa : Int) (oh : Int)) = 1 + max (oa : Int) (oh : Int) := by rw [IntKind.wrap_i64]; omega
                            replace hoh := Lib.hid hoh
                            replace hXv := Lib.hid hXv
                            replace hXu := Lib.hid hXu
                            clear hXe2 ho1' b6 m3
                            go_region_held3 (fun w' => w'.cell? ⟨bh, 0, none⟩ = some (.slice (some ⟨gh, 0, none⟩) nn nn) ∧ w'.cell? ⟨bx, 3, none⟩ = some (.int .i64 r.b)) (first | (have hq0 := x0; with_reducible exact ⟨keep_set1 x0 hng1, keep_set1 x1 hng2⟩) | go_keep)
                              (first
                                | (go_at_call 74; (with_reducible refine Calls.mono cC.out ?_); rintro en w8 ⟨rfl, hS8, kb8, hB8, x0, fz8, y8, ce8⟩; have x1 : w8.cell? ⟨bx, 3, none⟩ = some (.int .i64 r.b) := kb8.out.cell 3))
                            go_wp2_with fail
                            go_meet
                            case rel => exact ⟨w8, Lib.hid (by rw [hXv.out, show ((1 + max oa oh : Nat) : Int) = 1 + max (oa : Int) (oh : Int) by omega]), Lib.hid (by rw [hXu.out]; exact hS8.out), kb8, hB8⟩
                      obtain ⟨W6, hwx, hS6, kb6, hB6⟩ := hcut
                      clear n0 n1 n2 n3 n4 kb hS1 hB1 hW2 hX8
                      obtain ⟨x1, hx1⟩ : ∃ x, x = X.1 := ⟨_, rfl⟩
                      obtain ⟨U2, hU2⟩ : ∃ x, x = X.2 := ⟨_, rfl⟩
                      rw [← hx1] at hwx hstep hX1
                      rw [← hU2] at hS6 hstep
                      have kbc : Blk wc bx 52 #[.int .u8 (r.kind : Int), .string (mkS r.text), .int .i64 r.a, .int .i64 r.b, .int .i64 r.n] := by rw [hwx.out]; exact kb6.out.far (blkL_ne kb6.out hS6.out.h (by decide)) _
                      have hhc : Blk wc gh 3 (ihs (H.set i x1)) := by rw [hwx.out]; exact ihs_set hS6.out.h i x1
                      have b5 : wc.cell? ⟨bh, 0, none⟩ = some (.slice (some ⟨gh, 0, none⟩) nn nn) := by rw [hwx.out]; exact (hS6.out.bh.far (blkL_ne hS6.out.bh hS6.out.h (by decide)) _).cell 0
                      have cx : wc.cell? ⟨gh, i, none⟩ = some (.int .i64 (x1 : Int)) := ihs_cell hhc (by rw [List.getElem?_set_self (by rw [hS6.out.hl]; exact hin)])
                      have n0 : wc.cell? ⟨bx, 0, none⟩ = some (.int .u8 (r.kind : Int)) := kbc.cell 0
                      have n4 : wc.cell? ⟨bx, 4, none⟩ = some (.int .i64 r.n) := kbc.cell 4
                      have hBc : Hid (Below w.heap.size w wc) := Lib.hid (by rw [hwx.out]; exact hB6.out.setCell (p := ⟨gh, i, none⟩) hS6.out.gh _)
                      clear hhc kbc
                      replace hx1 := Lib.hid hx1
                      replace hU2 := Lib.hid hU2
                      by_cases hA : 64 < x1
                      case pos =>
                        have hbad : shapB x1 r := .inl hA
                        have hRf : RS = false := by rw [hstep.out, if_pos hbad]; rfl
                        have hI1x : ((x1 : Int) > 64) := by omega
                        clear hA
                        subst hRf
                        clear hbad
                        go_wp2_with fail
                        go_ret2
                        first | exact ⟨⟨_, rfl⟩, hBc.out⟩ | exact ⟨_, rfl, hBc.out⟩ | exact hBc.out
                      case neg =>
                        have hI1x : ¬ ((x1 : Int) > 64) := by omega
                        by_cases hk : r.kind = 10
                        case neg =>
                          have hgood : ¬ shapB x1 r := by
                            rintro (h | h)
                            · exact hA h
                            · exact hk h.1
                          have hx64 : x1 ≤ 64 := by
                            by_cases h : 64 < x1
                            · exact absurd (.inl h) hgood
                            · omega
                          have hst2 : Hid (RS = if shL (N.drop (i + 1)) (i + 1) U2 (H.set i x1) then ltL nn Ls else false) := Lib.hid (by rw [hstep.out, if_neg hgood])
                          have hSc : Hid (ShS w.heap.size w.heap.size bu bh gu gh nn (.slice (some ⟨g, o, none⟩) nn cN) (.slice AL nl cL) m wc U2 (H.set i x1)) := Lib.hid (by rw [hwx.out]; exact hS6.out.put i x1 hx64)
                          have hIk : ((r.kind : Int) == 10) = false := by rw [beq_eq_false_iff_ne]; omega
                          clear hA hk
                          clear hgood hx64
                          go_wp2_with fail
                          go_roundg (gk - 1)
                          case measure =>
                            have := hik.out
                            omega
                          case rel => exact ⟨i + 1, U2, H.set i x1, by simp, Lib.hid (by have := hik.out; omega), hSc, hBc, hst2⟩
                        case pos =>
                          have hIk : ((r.kind : Int) == 10) = true := by rw [hk]; rfl
                          by_cases hn0 : r.n < 0
                          case pos =>
                            have hbad : shapB x1 r := .inr ⟨hk, .inl hn0⟩
                            have hRf : RS = false := by rw [hstep.out, if_pos hbad]; rfl
                            clear hA hk
                            subst hRf
                            clear hbad
                            go_wp2_with fail
                            go_ret2
                            first | exact ⟨⟨_, rfl⟩, hBc.out⟩ | exact ⟨_, rfl, hBc.out⟩ | exact hBc.out
                          case neg =>
                            by_cases hn1 : 64 < r.n
                            case pos =>
                              have hbad : shapB x1 r := .inr ⟨hk, .inr hn1⟩
                              have hRf : RS = false := by rw [hstep.out, if_pos hbad]; rfl
                              have hn2 : r.n > 64 := hn1
                              clear hA hk
                              subst hRf
                              clear hbad
                              go_wp2_with fail
                              go_ret2
                              first | exact ⟨⟨_, rfl⟩, hBc.out⟩ | exact ⟨_, rfl, hBc.out⟩ | exact hBc.out
                            case neg =>
                              have hgood : ¬ shapB x1 r := by
                                rintro (h | h)
                                · exact hA h
                                · rcases h.2 with h | h
                                  · exact hn0 h
                                  · exact hn1 h
                              have hx64 : x1 ≤ 64 := by
                                by_cases h : 64 < x1
                                · exact absurd (.inl h) hgood
                                · omega
                              have hst2 : Hid (RS = if shL (N.drop (i + 1)) (i + 1) U2 (H.set i x1) then ltL nn Ls else false) := Lib.hid (by rw [hstep.out, if_neg hgood])
                              have hSc : Hid (ShS w.heap.size w.heap.size bu bh gu gh nn (.slice (some ⟨g, o, none⟩) nn cN) (.slice AL nl cL) m wc U2 (H.set i x1)) := Lib.hid (by rw [hwx.out]; exact hS6.out.put i x1 hx64)
                              have hn2 : ¬ (r.n > 64) := hn1
                              clear hA hk
                              clear hgood hx64
                              go_wp2_with fail
                              go_roundg (gk - 1)
                              case measure =>
                                have := hik.out
                                omega
                              case rel => exact ⟨i + 1, U2, H.set i x1, by simp, Lib.hid (by have := hik.out; omega), hSc, hBc, hst2⟩
              case neg =>
                have hi : i = nn := by have := hik.out; omega
                have hLt : Hid (RS = ltL nn Ls) := Lib.hid (by
                  rw [hL.out, List.drop_eq_nil_of_le (by have := hnn.out; omega)]
                  rfl)
                clear hL
                subst hi
                generalize hWr : wr = wz at hS hB l0 l1 ⊢
                clear hWr hik
                go_wp2_with fail
                go_loopg [137] nl (fun kx s137 wq => ∃ (q : Nat), s137 = .int .i64 (q : Int) ∧ Hid (q + kx = nl) ∧ Hid (Below wz.heap.size wz wq) ∧ Hid (RS = ltL i (Ls.drop q)))
                case atStart => exact ⟨0, rfl, Lib.hid (by omega), Lib.hid (Below.refl _ _), hLt⟩
                case round =>
                  obtain ⟨q, rfl, hqk, hBq, hLq⟩ := hrel
                  have hSq := hS.out.below hBq.out
                  by_cases hqn : q < nl
                  case pos =>
                    obtain ⟨g2, o2, hAL, hgB2, hLc2⟩ := hLc.out (by omega)
                    subst hAL
                    obtain ⟨lt, hlt⟩ : ∃ l, l = Ls[q]! := ⟨_, rfl⟩
                    have hBw : Hid (Below w.heap.size w wr) := Lib.hid (hB.out.trans (hBq.out.mono hB.out.size))
                    have hcl := fun (j : Nat) (u : Value) (hu : (encRL lt)[j]? = some u) => (hBw.out.cell (show (⟨g2, o2 + q * 2 + j, none⟩ : Addr).block < w.heap.size from hgB2)).trans (hLc2 q hqn j u (by rw [← hlt]; exact hu))
                    have c0 : wr.cell? ⟨g2, o2 + q * 2, none⟩ = some (.string (mkS lt.name)) := hcl 0 _ rfl
                    have c1 : wr.cell? ⟨g2, o2 + q * 2 + 1, none⟩ = some (.int .i64 lt.at_) := hcl 1 _ rfl
                    have hts : ((mkS lt.name).size : Int) = (lt.name.length : Int) := by rw [mkS_size]
                    have hstep : Hid (RS = if letBad i lt then false else ltL i (Ls.drop (q + 1))) := Lib.hid (by
                      have hd : Ls.drop q = lt :: Ls.drop (q + 1) := by
                        rw [hlt, getElem!_pos Ls q (by have := hnl.out; omega)]
                        exact List.drop_eq_getElem_cons (by have := hnl.out; omega)
                      have h0 := hLq.out
                      rw [hd] at h0
                      exact h0)
                    have l0 : wr.cell? ⟨w.heap.size, 0, none⟩ = some (.slice (some ⟨g, o, none⟩) i cN) := hSq.p.cell 0
                    have kb := Lib.hid (Blk.new wr 54 #[.string (mkS lt.name), .int .i64 lt.at_])
                    have hB2 := Lib.hid (hBq.out.alloc hBq.out.size (.cells #[.string (mkS lt.name), .int .i64 lt.at_] 54))
                    have l02 : (wr.alloc (.cells #[.string (mkS lt.name), .int .i64 lt.at_] 54)).cell? ⟨w.heap.size, 0, none⟩ = some (.slice (some ⟨g, o, none⟩) i cN) := (hSq.p.alloc _).cell 0
                    replace hts := Lib.hid hts
                    replace hlt := Lib.hid hlt
                    clear hcl hLc2 hgB2 hLq hSq
                    go_upto_region 24 with fail
                    generalize hW2 : wr.alloc (.cells #[.string (mkS lt.name), .int .i64 lt.at_] 54) = w2 at kb hB2 l02 ⊢
                    generalize hb2 : wr.heap.size = bx at kb ⊢
                    replace hW2 := Lib.hid hW2
                    replace hb2 := Lib.hid hb2
                    have n0 : w2.cell? ⟨bx, 0, none⟩ = some (.string (mkS lt.name)) := kb.out.cell 0
                    have n1 : w2.cell? ⟨bx, 1, none⟩ = some (.int .i64 lt.at_) := kb.out.cell 1
                    have hBf : Hid (Below w.heap.size w w2) := Lib.hid (hB.out.trans (hB2.out.mono hB.out.size))
                    clear c0 c1 l0
                    by_cases hc : lt.at_ < 0
                    case pos =>
                      have hbad : letBad i lt := .inl hc
                      have hRf : RS = false := by rw [hstep.out, if_pos hbad]
                      have hJ0 : lt.at_ < 0 := hc
                      subst hRf
                      clear hbad hc
                      go_wp2_with fail
                      go_ret2
                      first | exact ⟨⟨_, rfl⟩, hBf.out⟩ | exact ⟨_, rfl, hBf.out⟩ | exact hBf.out
                    case neg =>
                      have hJ0 : ¬ (lt.at_ < 0) := hc
                      have hm0 := hc
                      clear hc
                      by_cases hc : (i : Int) ≤ lt.at_
                      case pos =>
                        have hbad : letBad i lt := .inr (.inl hc)
                        have hRf : RS = false := by rw [hstep.out, if_pos hbad]
                        have hJ1 : lt.at_ ≥ (i : Int) := hc
                        subst hRf
                        clear hbad hc
                        go_wp2_with fail
                        go_ret2
                        first | exact ⟨⟨_, rfl⟩, hBf.out⟩ | exact ⟨_, rfl, hBf.out⟩ | exact hBf.out
                      case neg =>
                        have hJ1 : ¬ (lt.at_ ≥ (i : Int)) := hc
                        have hm1 := hc
                        clear hc
                        by_cases hc : 16384 < lt.name.length
                        case pos =>
                          have hbad : letBad i lt := .inr (.inr hc)
                          have hRf : RS = false := by rw [hstep.out, if_pos hbad]
                          have hJ2 : (((mkS lt.name).size : Int) > 16384) := by have := hts.out; omega
                          subst hRf
                          clear hbad hc
                          go_wp2_with fail
                          go_ret2
                          first | exact ⟨⟨_, rfl⟩, hBf.out⟩ | exact ⟨_, rfl, hBf.out⟩ | exact hBf.out
                        case neg =>
                          have hJ2 : ¬ (((mkS lt.name).size : Int) > 16384) := by have := hts.out; omega
                          have hm2 := hc
                          clear hc
                          have hgood : ¬ letBad i lt := by
                            rintro (h | h | h)
                            · exact hm0 h
                            · exact hm1 h
                            · exact hm2 h
                          have hst2 : Hid (RS = ltL i (Ls.drop (q + 1))) := Lib.hid (by rw [hstep.out, if_neg hgood])
                          clear hgood hm0 hm1 hm2
                          go_wp2_with fail
                          go_roundg (gk - 1)
                          case measure =>
                            have := hqk.out
                            omega
                          case rel => exact ⟨q + 1, by simp, Lib.hid (by have := hqk.out; omega), hB2, hst2⟩
                  case neg =>
                    have hRt : RS = true := by
                      rw [hLq.out, List.drop_eq_nil_of_le (by have := hqk.out; have := hnl.out; omega)]
                      rfl
                    subst hRt
                    have b5 : wr.cell? ⟨bh, 0, none⟩ = some (.slice (some ⟨gh, 0, none⟩) i i) := hSq.bh.cell 0
                    have hBf : Hid (Below w.heap.size w wr) := Lib.hid (hB.out.trans (hBq.out.mono hB.out.size))
                    go_wp2_with fail
                    go_ret2
                    first | exact ⟨⟨_, rfl⟩, hBf.out⟩ | exact ⟨_, rfl, hBf.out⟩ | exact hBf.out
end Go.Proofs.YtnaadajcehfmiaaGreatDoor
