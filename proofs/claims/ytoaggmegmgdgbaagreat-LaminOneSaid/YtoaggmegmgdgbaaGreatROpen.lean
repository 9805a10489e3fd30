import Derived.Test.YtoaggmegmgdgbaaGreatLamR
import Derived.Test.YtoaggmegmgdgbaaGreatLamP
import Derived.Test.YtoaggmegmgdgbaaGreatLamE
import Derived.Test.YtoaggmegmgdgbaaGreatRefA
import Derived.Test.YtoaggmegmgdgbaaGreatBack
import Derived.Deep.CutBlock
import Derived.Deep.CutRange
import Derived.Deep.RegionHeld3
import Derived.Test.YtoaggmegmgdgbaaGreatLamH
import Derived.Test.YtoaggmegmgdgbaaGreatOnceJ
import Derived.Test.YtoaggmegmgdgbaaGreatGapA
import Derived.Test.YtoaggmegmgdgbaaGreatTail
namespace Go.Proofs.YtoaggmegmgdgbaaGreat
open Go.RowKit Go.Sort
def apartR (L : List Lf) (n1 : Bool) (a1 d1 : ByteArray) (n2 : Bool) (a2 d2 : ByteArray) : Bool × Int :=
  if okA n1 a1 d1 then (if okA n2 a2 d2 then (L.any fun l => partsP l (be (sl a1), be (sl d1)) (be (sl a2), be (sl d2)), 0) else (false, 210)) else (false, 210)
theorem any_of_get {L : List Lf} {f : Lf → Bool} {i : Nat} (hi : i < L.length) (h : f L[i]! = true) : L.any f = true := List.any_eq_true.2 ⟨_, getBang_mem hi, h⟩
theorem any_not {L : List Lf} {f : Lf → Bool} (h : ∀ i, i < L.length → f L[i]! = false) : L.any f = false := List.any_eq_false.2 (fun m hm => by
  obtain ⟨i, hi, rfl⟩ := List.mem_iff_getElem.1 hm
  have := h i hi
  rw [getElem!_pos L i hi] at this
  rw [this]; exact Bool.false_ne_true)
set_option maxRecDepth 100000 in
set_option maxHeartbeats 4000000 in
theorem lApart_any (B x : Nat) (v : Value) (L : List Lf) (n1 : Bool) (a1 d1 : ByteArray) (n2 : Bool) (a2 d2 : ByteArray) (w : World) (hS : LamS w B x v L) (z1 : a1.size ≤ 9223372036854775807) (y1 : d1.size ≤ 9223372036854775807) (z2 : a2.size ≤ 9223372036854775807) (y2 : d2.size ≤ 9223372036854775807) :
    Calls Tryz.prog 37 #[.pointer (some ⟨x, 0, none⟩), .agg #[.bool n1, .string a1, .string d1], .agg #[.bool n2, .string a2, .string d2]] w (RetVal (.tuple #[.bool (apartR L n1 a1 d1 n2 a2 d2).1, .int .i64 (apartR L n1 a1 d1 n2 a2 d2).2]) w) := by
  obtain ⟨A, c, rfl, hA⟩ := LRow.form hS.lam.row
  have hN : Hid (∀ W, Blk W x 103 #[.bool true, .slice A L.length c] → Calls Tryz.prog 76 #[.pointer (some ⟨x, 0, none⟩)] W (RetVal (.bool false) W)) := Lib.hid (fun W h => lnone_any x true _ W h)
  have hCa := Lib.hid (fun W => check_any n1 a1 d1 W z1 y1)
  have hCb := Lib.hid (fun W => check_any n2 a2 d2 W z2 y2)
  have hLm := Lib.hid hS.lam
  have hlen := hS.len
  have hM := hS.ok.ang
  obtain ⟨RV, hr⟩ : ∃ r, r = apartR L n1 a1 d1 n2 a2 d2 := ⟨_, rfl⟩
  rw [← hr]
  unfold apartR at hr
  replace hr := Lib.hid hr
  cases h1 : okA n1 a1 d1
  case false =>
    rw [h1] at hCa
    replace hr := Lib.hid (hr.out.trans (by rw [h1]; rfl : _ = (false, (210 : Int))))
    clear h1 hCb z1 y1 z2 y2 hS hM hA hlen
    have hBW : Below w.heap.size w ((w.alloc (.cells #[.bool n1, .string a1, .string d1] 26)).alloc (.cells #[.bool n2, .string a2, .string d2] 26)) := (((Below.refl _ w).alloc (Nat.le_refl _) _).alloc (by simp) _)
    have kk0 := ((Blk.new w 26 #[.bool n1, .string a1, .string d1]).alloc (.cells #[.bool n2, .string a2, .string d2] 26))
    have kk1 := (Blk.new (w.alloc (.cells #[.bool n1, .string a1, .string d1] 26)) 26 #[.bool n2, .string a2, .string d2])
    simp only [World.size_alloc] at kk1
    have K := Lib.hid ((KeepT.one kk0).snoc kk1)
    have hB := Lib.hid hBW
    clear hBW kk0 kk1
    replace hLm := Lib.hid ((hLm.out.alloc (.cells #[.bool n1, .string a1, .string d1] 26)).alloc (.cells #[.bool n2, .string a2, .string d2] 26))
    go_enter Tryz.func37, Tryz.ntmps37
    go_upto_region 1 with fail
    generalize hW : ((w.alloc (.cells #[.bool n1, .string a1, .string d1] 26)).alloc (.cells #[.bool n2, .string a2, .string d2] 26)) = w1 at hB K hLm ⊢
    clear hW
    go_wp2_with fail
    refine (hN.out _ hLm.out.blk).mono ?_
    rintro en w2 ⟨rfl, hb⟩
    replace hB := Lib.hid (hB.out.trans (hb.mono hB.out.size))
    replace K := Lib.hid ((K.out.below hb))
    replace hLm := Lib.hid ((hLm.out.below hb))
    clear  hb hN
    have pa0 : w2.cell? ⟨w.heap.size, 0, none⟩ = some (.bool n1) := (K.out.at_ 0 rfl).cell 0
    have pa1 : w2.cell? ⟨w.heap.size, 1, none⟩ = some (.string a1) := (K.out.at_ 0 rfl).cell 1
    have pa2 : w2.cell? ⟨w.heap.size, 2, none⟩ = some (.string d1) := (K.out.at_ 0 rfl).cell 2
    go_wp2_with fail
    refine (hCa.out _).mono ?_
    rintro en w3 ⟨rfl, hb⟩
    replace hB := Lib.hid (hB.out.trans (hb.mono hB.out.size))
    replace K := Lib.hid ((K.out.below hb))
    replace hLm := Lib.hid ((hLm.out.below hb))
    clear pa0 pa1 pa2 hb hCa
    clear K hLm
    go_wp2_with fail
    go_ret2
    exact ⟨by rw [hr.out]; rfl, hB.out⟩
  case true =>
    cases h2 : okA n2 a2 d2
    case false =>
      rw [h1] at hCa
      rw [h2] at hCb
      replace hr := Lib.hid (hr.out.trans (by rw [h1, h2]; rfl : _ = (false, (210 : Int))))
      clear h1 h2 z1 y1 z2 y2 hS hM hA hlen
      have hBW : Below w.heap.size w ((w.alloc (.cells #[.bool n1, .string a1, .string d1] 26)).alloc (.cells #[.bool n2, .string a2, .string d2] 26)) := (((Below.refl _ w).alloc (Nat.le_refl _) _).alloc (by simp) _)
      have kk0 := ((Blk.new w 26 #[.bool n1, .string a1, .string d1]).alloc (.cells #[.bool n2, .string a2, .string d2] 26))
      have kk1 := (Blk.new (w.alloc (.cells #[.bool n1, .string a1, .string d1] 26)) 26 #[.bool n2, .string a2, .string d2])
      simp only [World.size_alloc] at kk1
      have K := Lib.hid ((KeepT.one kk0).snoc kk1)
      have hB := Lib.hid hBW
      clear hBW kk0 kk1
      replace hLm := Lib.hid ((hLm.out.alloc (.cells #[.bool n1, .string a1, .string d1] 26)).alloc (.cells #[.bool n2, .string a2, .string d2] 26))
      go_enter Tryz.func37, Tryz.ntmps37
      go_upto_region 1 with fail
      generalize hW : ((w.alloc (.cells #[.bool n1, .string a1, .string d1] 26)).alloc (.cells #[.bool n2, .string a2, .string d2] 26)) = w1 at hB K hLm ⊢
      clear hW
      go_wp2_with fail
      refine (hN.out _ hLm.out.blk).mono ?_
      rintro en w2 ⟨rfl, hb⟩
      replace hB := Lib.hid (hB.out.trans (hb.mono hB.out.size))
      replace K := Lib.hid ((K.out.below hb))
      replace hLm := Lib.hid ((hLm.out.below hb))
      clear  hb hN
      have pa0 : w2.cell? ⟨w.heap.size, 0, none⟩ = some (.bool n1) := (K.out.at_ 0 rfl).cell 0
      have pa1 : w2.cell? ⟨w.heap.size, 1, none⟩ = some (.string a1) := (K.out.at_ 0 rfl).cell 1
      have pa2 : w2.cell? ⟨w.heap.size, 2, none⟩ = some (.string d1) := (K.out.at_ 0 rfl).cell 2
      go_wp2_with fail
      refine (hCa.out _).mono ?_
      rintro en w3 ⟨rfl, hb⟩
      replace hB := Lib.hid (hB.out.trans (hb.mono hB.out.size))
      replace K := Lib.hid ((K.out.below hb))
      replace hLm := Lib.hid ((hLm.out.below hb))
      clear pa0 pa1 pa2 hb hCa
      have pb0 : w3.cell? ⟨w.heap.size + 1, 0, none⟩ = some (.bool n2) := (K.out.at_ 1 rfl).cell 0
      have pb1 : w3.cell? ⟨w.heap.size + 1, 1, none⟩ = some (.string a2) := (K.out.at_ 1 rfl).cell 1
      have pb2 : w3.cell? ⟨w.heap.size + 1, 2, none⟩ = some (.string d2) := (K.out.at_ 1 rfl).cell 2
      go_wp2_with fail
      refine (hCb.out _).mono ?_
      rintro en w4 ⟨rfl, hb⟩
      replace hB := Lib.hid (hB.out.trans (hb.mono hB.out.size))
      replace K := Lib.hid ((K.out.below hb))
      replace hLm := Lib.hid ((hLm.out.below hb))
      clear pb0 pb1 pb2 hb hCb
      clear K hLm
      go_wp2_with fail
      go_ret2
      exact ⟨by rw [hr.out]; rfl, hB.out⟩
    case true =>
      rw [h1] at hCa
      rw [h2] at hCb
      obtain ⟨b1, b2, b3, b4⟩ := Ang.of_ok h1
      obtain ⟨c1, c2, c3, c4⟩ := Ang.of_ok h2
      obtain ⟨p, hp⟩ : ∃ p : Nat × Nat, p = (be (sl a1), be (sl d1)) := ⟨_, rfl⟩
      obtain ⟨q, hq⟩ : ∃ p : Nat × Nat, p = (be (sl a2), be (sl d2)) := ⟨_, rfl⟩
      rw [← hp] at b1
      rw [← hq] at c1
      have e1 : n1 = false ∧ a1 = natS p.1 ∧ d1 = natS p.2 := by rw [hp]; exact ⟨b2, b3, b4⟩
      have e2 : n2 = false ∧ a2 = natS q.1 ∧ d2 = natS q.2 := by rw [hq]; exact ⟨c2, c3, c4⟩
      replace hr := Lib.hid (hr.out.trans (by rw [h1, h2, ← hp, ← hq]; rfl : _ = (L.any fun l => partsP l p q, (0 : Int))))
      clear h1 h2 hp hq b2 b3 b4 c2 c3 c4 z1 y1 z2 y2
      obtain ⟨rfl, rfl, rfl⟩ := e1
      obtain ⟨rfl, rfl, rfl⟩ := e2
      have hX : Hid (∀ (t : Nat) (m : Lf) (b : Bool), t < L.length → m = L[t]! → b = partsP m p q → ∀ W, Calls Tryz.prog 89 #[.agg #[.bool false, .string (natS m.1.1), .string (natS m.1.2), .bool false, .string (natS m.2.1), .string (natS m.2.2)], .agg #[.bool false, .string (natS p.1), .string (natS p.2)], .agg #[.bool false, .string (natS q.1), .string (natS q.2)]] W (RetVal (.bool b) W)) := Lib.hid (fun t m b ht hm hb W => by
        subst hm hb
        exact lparts_any _ p q W (hM _ (getBang_mem ht)) b1 c1)
      clear b1 c1 hS hM
      obtain ⟨n, hn⟩ : ∃ n, n = L.length := ⟨_, rfl⟩
      have hn4 : n ≤ 1048576 := by omega
      replace hn := Lib.hid hn
      clear hlen
      have hBW : Below w.heap.size w ((w.alloc (.cells #[.bool false, .string (natS p.1), .string (natS p.2)] 26)).alloc (.cells #[.bool false, .string (natS q.1), .string (natS q.2)] 26)) := (((Below.refl _ w).alloc (Nat.le_refl _) _).alloc (by simp) _)
      have kk0 := ((Blk.new w 26 #[.bool false, .string (natS p.1), .string (natS p.2)]).alloc (.cells #[.bool false, .string (natS q.1), .string (natS q.2)] 26))
      have kk1 := (Blk.new (w.alloc (.cells #[.bool false, .string (natS p.1), .string (natS p.2)] 26)) 26 #[.bool false, .string (natS q.1), .string (natS q.2)])
      simp only [World.size_alloc] at kk1
      have K := Lib.hid ((KeepT.one kk0).snoc kk1)
      have hB := Lib.hid hBW
      clear hBW kk0 kk1
      replace hLm := Lib.hid ((hLm.out.alloc (.cells #[.bool false, .string (natS p.1), .string (natS p.2)] 26)).alloc (.cells #[.bool false, .string (natS q.1), .string (natS q.2)] 26))
      go_enter Tryz.func37, Tryz.ntmps37
      go_upto_region 1 with fail
      generalize hW : ((w.alloc (.cells #[.bool false, .string (natS p.1), .string (natS p.2)] 26)).alloc (.cells #[.bool false, .string (natS q.1), .string (natS q.2)] 26)) = w1 at hB K hLm ⊢
      clear hW
      go_wp2_with fail
      refine (hN.out _ hLm.out.blk).mono ?_
      rintro en w2 ⟨rfl, hb⟩
      replace hB := Lib.hid (hB.out.trans (hb.mono hB.out.size))
      replace K := Lib.hid ((K.out.below hb))
      replace hLm := Lib.hid ((hLm.out.below hb))
      clear  hb hN
      have pa0 : w2.cell? ⟨w.heap.size, 0, none⟩ = some (.bool false) := (K.out.at_ 0 rfl).cell 0
      have pa1 : w2.cell? ⟨w.heap.size, 1, none⟩ = some (.string (natS p.1)) := (K.out.at_ 0 rfl).cell 1
      have pa2 : w2.cell? ⟨w.heap.size, 2, none⟩ = some (.string (natS p.2)) := (K.out.at_ 0 rfl).cell 2
      go_wp2_with fail
      refine (hCa.out _).mono ?_
      rintro en w3 ⟨rfl, hb⟩
      replace hB := Lib.hid (hB.out.trans (hb.mono hB.out.size))
      replace K := Lib.hid ((K.out.below hb))
      replace hLm := Lib.hid ((hLm.out.below hb))
      clear pa0 pa1 pa2 hb hCa
      have pb0 : w3.cell? ⟨w.heap.size + 1, 0, none⟩ = some (.bool false) := (K.out.at_ 1 rfl).cell 0
      have pb1 : w3.cell? ⟨w.heap.size + 1, 1, none⟩ = some (.string (natS q.1)) := (K.out.at_ 1 rfl).cell 1
      have pb2 : w3.cell? ⟨w.heap.size + 1, 2, none⟩ = some (.string (natS q.2)) := (K.out.at_ 1 rfl).cell 2
      go_wp2_with fail
      refine (hCb.out _).mono ?_
      rintro en w4 ⟨rfl, hb⟩
      replace hB := Lib.hid (hB.out.trans (hb.mono hB.out.size))
      replace K := Lib.hid ((K.out.below hb))
      replace hLm := Lib.hid ((hLm.out.below hb))
      clear pb0 pb1 pb2 hb hCb
      have y1 : w4.cell? ⟨x, 1, none⟩ = some (.slice A n c) := by rw [hn.out]; exact hLm.out.blk.cell 1
      go_wp2
      clear y1
      go_loopg [29] n (fun kx s29 wr => ∃ i : Nat, s29 = .int .i64 (i : Int) ∧ i ≤ n ∧ n - i ≤ kx ∧ Hid (∀ t, t < i → partsP L[t]! p q = false) ∧ Hid (Below w4.heap.size w4 wr))
      case atStart => exact ⟨0, rfl, Nat.zero_le _, Nat.le_refl _, Lib.hid (fun t ht => absurd ht (Nat.not_lt_zero _)), Lib.hid (Below.refl _ _)⟩
      case round =>
        obtain ⟨i, rfl, hin, hg, I, hb⟩ := hrel
        by_cases hlt : i < n
        case pos =>
          have hil : i < L.length := by rw [← hn.out]; exact hlt
          obtain ⟨g, rfl⟩ := hA (by omega)
          clear hA
          obtain ⟨m, hm⟩ : ∃ m, m = L[i]! := ⟨_, rfl⟩
          obtain ⟨b, hbm⟩ : ∃ b, b = partsP m p q := ⟨_, rfl⟩
          have hXi := Lib.hid (hX.out i m b hil hm hbm)
          have hC := LRow.cell (hLm.out.below hb.out).row hil
          rw [← hm] at hC
          have m0 : wr.cell? ⟨g, i * 6, none⟩ = some (.bool false) := hC 0 _ rfl
          have m1 : wr.cell? ⟨g, i * 6 + 1, none⟩ = some (.string (natS m.1.1)) := hC 1 _ rfl
          have m2 : wr.cell? ⟨g, i * 6 + 2, none⟩ = some (.string (natS m.1.2)) := hC 2 _ rfl
          have m3 : wr.cell? ⟨g, i * 6 + 3, none⟩ = some (.bool false) := hC 3 _ rfl
          have m4 : wr.cell? ⟨g, i * 6 + 4, none⟩ = some (.string (natS m.2.1)) := hC 4 _ rfl
          have m5 : wr.cell? ⟨g, i * 6 + 5, none⟩ = some (.string (natS m.2.2)) := hC 5 _ rfl
          clear hC hil
          have hiz : (i : Int) < (n : Int) := by omega
          have hb2 := Lib.hid (hb.out.alloc hb.out.size (.cells #[.bool false, .string (natS m.1.1), .string (natS m.1.2), .bool false, .string (natS m.2.1), .string (natS m.2.2)] 38))
          have KW := Lib.hid (((K.out.below hb.out).alloc (.cells #[.bool false, .string (natS m.1.1), .string (natS m.1.2), .bool false, .string (natS m.2.1), .string (natS m.2.2)] 38)).snoc (Blk.new wr 38 #[.bool false, .string (natS m.1.1), .string (natS m.1.2), .bool false, .string (natS m.2.1), .string (natS m.2.2)]))
          replace I := Lib.hid I.out
          replace hm := Lib.hid hm
          replace hbm := Lib.hid hbm
          go_upto_region 12 with fail
          generalize hW : wr.alloc (.cells #[.bool false, .string (natS m.1.1), .string (natS m.1.2), .bool false, .string (natS m.2.1), .string (natS m.2.2)] 38) = wa at hb2 KW ⊢
          generalize hgg : wr.heap.size = ga at KW ⊢
          clear hW hgg m0 m1 m2 m3 m4 m5 hiz hb
          have pa0 : wa.cell? ⟨w.heap.size, 0, none⟩ = some (.bool false) := (KW.out.at_ 0 rfl).cell 0
          have pa1 : wa.cell? ⟨w.heap.size, 1, none⟩ = some (.string (natS p.1)) := (KW.out.at_ 0 rfl).cell 1
          have pa2 : wa.cell? ⟨w.heap.size, 2, none⟩ = some (.string (natS p.2)) := (KW.out.at_ 0 rfl).cell 2
          have pb0 : wa.cell? ⟨w.heap.size + 1, 0, none⟩ = some (.bool false) := (KW.out.at_ 1 rfl).cell 0
          have pb1 : wa.cell? ⟨w.heap.size + 1, 1, none⟩ = some (.string (natS q.1)) := (KW.out.at_ 1 rfl).cell 1
          have pb2 : wa.cell? ⟨w.heap.size + 1, 2, none⟩ = some (.string (natS q.2)) := (KW.out.at_ 1 rfl).cell 2
          have mm0 : wa.cell? ⟨ga, 0, none⟩ = some (.bool false) := (KW.out.at_ 2 rfl).cell 0
          have mm1 : wa.cell? ⟨ga, 1, none⟩ = some (.string (natS m.1.1)) := (KW.out.at_ 2 rfl).cell 1
          have mm2 : wa.cell? ⟨ga, 2, none⟩ = some (.string (natS m.1.2)) := (KW.out.at_ 2 rfl).cell 2
          have mm3 : wa.cell? ⟨ga, 3, none⟩ = some (.bool false) := (KW.out.at_ 2 rfl).cell 3
          have mm4 : wa.cell? ⟨ga, 4, none⟩ = some (.string (natS m.2.1)) := (KW.out.at_ 2 rfl).cell 4
          have mm5 : wa.cell? ⟨ga, 5, none⟩ = some (.string (natS m.2.2)) := (KW.out.at_ 2 rfl).cell 5
          go_wp2_with fail
          refine (hXi.out _).mono ?_
          rintro en wc ⟨rfl, hb⟩
          replace hb2 := Lib.hid (hb2.out.trans (hb.mono hb2.out.size))
          clear hb hXi KW
          clear pa0 pa1 pa2 pb0 pb1 pb2 mm0 mm1 mm2 mm3 mm4 mm5
          cases b
          case true =>
            have hZ := Lib.hid (hB.out.trans (hb2.out.mono hB.out.size))
            have hA1 : Hid (RV = (true, (0 : Int))) := Lib.hid (hr.out.trans (by rw [any_of_get (i := i) (by rw [← hn.out]; exact hlt) (by rw [← hm.out]; exact hbm.out.symm)]))
            clear K hLm hX hb2 hr
            go_wp2_with fail
            go_ret2
            exact ⟨by rw [hA1.out]; rfl, hZ.out⟩
          case false =>
            go_wp2_with fail
            go_roundg (n - (i + 1))
            case measure => omega
            case rel =>
              exact ⟨i + 1, by go_num, by omega, Nat.le_refl _, Lib.hid (fun t ht => by
                rcases Nat.lt_or_ge t i with h | h
                · exact I.out t h
                · obtain rfl : t = i := by omega
                  rw [← hm.out, ← hbm.out]), hb2⟩
        case neg =>
          obtain rfl : i = n := by omega
          replace hB := Lib.hid (hB.out.trans (hb.out.mono hB.out.size))
          have hA1 : Hid (RV = (false, (0 : Int))) := Lib.hid (hr.out.trans (by rw [any_not (fun t ht => I.out t (by rw [hn.out]; exact ht))]))
          clear hb hA I hg K hLm hX hr
          go_wp2_with fail
          go_ret2
          exact ⟨by rw [hA1.out]; rfl, hB.out⟩
open Go.RowKit Go.Sort
def repsG {α : Type} [DecidableEq α] (κ : Nat → α) : Nat → List Nat
  | 0 => []
  | k + 1 => if κ k ∈ (repsG κ k).map κ then repsG κ k else repsG κ k ++ [k]
def grpG {α β : Type} [DecidableEq α] (κ : Nat → α) (arc : Nat → β) (k : Nat) : List (List β) := (repsG κ k).map fun r => ((List.range k).filter fun j => decide (κ j = κ r)).map arc
section
variable {α α' β : Type} [DecidableEq α] [DecidableEq α'] {κ : Nat → α} {μ : Nat → α'} {arc : Nat → β}
theorem repsG_lt : ∀ k r, r ∈ repsG κ k → r < k
  | 0, r, h => absurd h (by simp [repsG])
  | k + 1, r, h => by
    rw [repsG] at h
    split at h
    · have := repsG_lt k r h; omega
    · rcases List.mem_append.1 h with h | h
      · have := repsG_lt k r h; omega
      · rw [List.mem_singleton.1 h]; omega
theorem repsG_mem : ∀ k j, j < k → κ j ∈ (repsG κ k).map κ
  | 0, j, h => absurd h (Nat.not_lt_zero _)
  | k + 1, j, h => by
    rw [repsG]
    rcases Nat.lt_or_ge j k with h1 | h1
    · have := repsG_mem k j h1
      split
      · exact this
      · rw [List.map_append]; exact List.mem_append_left _ this
    · obtain rfl : j = k := by omega
      split
      · assumption
      · simp
theorem repsG_nodup : ∀ k, ((repsG κ k).map κ).Nodup
  | 0 => by simp [repsG]
  | k + 1 => by
    rw [repsG]
    split
    · exact repsG_nodup k
    · rename_i h
      rw [List.map_append, List.nodup_append]
      refine ⟨repsG_nodup k, by simp, fun a ha b hb e => ?_⟩
      simp only [List.map_cons, List.map_nil, List.mem_singleton] at hb
      subst hb
      subst e
      exact h ha
theorem repsG_len : ∀ k, (repsG κ k).length ≤ k
  | 0 => by simp [repsG]
  | k + 1 => by
    have := repsG_len k
    rw [repsG]
    split
    · omega
    · rw [List.length_append]; simp; omega
theorem repsG_congr {n : Nat} (h : ∀ i j, i < n → j < n → (κ i = κ j ↔ μ i = μ j)) : ∀ k, k ≤ n → repsG κ k = repsG μ k
  | 0, _ => rfl
  | k + 1, hk => by
    have ih := repsG_congr h k (by omega)
    have e : κ k ∈ (repsG κ k).map κ ↔ μ k ∈ (repsG μ k).map μ := by
      rw [List.mem_map, List.mem_map, ih]
      constructor
      · rintro ⟨r, hr, e⟩
        exact ⟨r, hr, (h r k (by have := repsG_lt k r (κ := μ) hr; omega) (by omega)).1 e⟩
      · rintro ⟨r, hr, e⟩
        exact ⟨r, hr, (h r k (by have := repsG_lt k r (κ := μ) hr; omega) (by omega)).2 e⟩
    rw [repsG, repsG]
    by_cases hm : κ k ∈ (repsG κ k).map κ
    · rw [if_pos hm, if_pos (e.1 hm), ih]
    · rw [if_neg hm, if_neg (fun x => hm (e.2 x)), ih]
theorem grpG_congr {n : Nat} (h : ∀ i j, i < n → j < n → (κ i = κ j ↔ μ i = μ j)) : grpG κ arc n = grpG μ arc n := by
  unfold grpG
  rw [repsG_congr h n (Nat.le_refl _)]
  refine List.map_congr_left fun r hr => ?_
  have hrn := repsG_lt n r hr
  congr 1
  refine List.filter_congr fun j hj => ?_
  rw [List.mem_range] at hj
  exact decide_eq_decide.2 (h j r hj hrn)
theorem modify_end (x : β) : ∀ l : List (List β), (l ++ [[]]).modify l.length (· ++ [x]) = l ++ [[x]]
  | [] => rfl
  | a :: r => by
    show a :: (r ++ [[]]).modify r.length _ = _
    rw [modify_end x r]
    rfl
theorem grpG_len (k : Nat) : (grpG κ arc k).length = (repsG κ k).length := by simp [grpG]
theorem filter_none {k r : Nat} (h : κ k ∉ (repsG κ k).map κ) (e : κ r = κ k) : (List.range k).filter (fun j => decide (κ j = κ r)) = [] := by
  rw [List.filter_eq_nil_iff]
  intro j hj
  rw [List.mem_range] at hj
  rw [decide_eq_true_eq]
  intro e2
  have := repsG_mem (κ := κ) k j hj
  rw [e2, e] at this
  exact h this
theorem grpG_new {k : Nat} (h : κ k ∉ (repsG κ k).map κ) : grpG κ arc (k + 1) = grpG κ arc k ++ [[arc k]] := by
  unfold grpG
  rw [repsG, if_neg h, List.map_append]
  congr 1
  · refine List.map_congr_left fun r hr => ?_
    have hne : κ k ≠ κ r := fun e => h (by rw [e]; exact List.mem_map_of_mem hr)
    rw [List.range_succ, List.filter_append, List.filter_cons_of_neg (by simpa using hne), List.filter_nil, List.append_nil]
  · rw [List.map_cons, List.map_nil, List.range_succ, List.filter_append, filter_none h rfl]
    simp
theorem grpG_old {k i : Nat} (hi : i < (repsG κ k).length) (e : κ (repsG κ k)[i] = κ k) : grpG κ arc (k + 1) = (grpG κ arc k).modify i (· ++ [arc k]) := by
  have hm : κ k ∈ (repsG κ k).map κ := by rw [← e]; exact List.mem_map_of_mem (List.getElem_mem hi)
  have hnd := repsG_nodup (κ := κ) k
  unfold grpG
  rw [repsG, if_pos hm]
  have hs : ∀ r, ((List.range (k + 1)).filter fun j => decide (κ j = κ r)) = ((List.range k).filter fun j => decide (κ j = κ r)) ++ ([k].filter fun j => decide (κ j = κ r)) := fun r => by rw [List.range_succ, List.filter_append]
  refine List.ext_getElem (by simp) fun j h1 h2 => ?_
  have hj : j < (repsG κ k).length := by simpa using h1
  rw [List.getElem_modify, List.getElem_map, List.getElem_map, hs]
  by_cases hij : i = j
  · subst hij
    rw [if_pos rfl, List.filter_cons_of_pos (by simpa using e.symm), List.filter_nil, List.map_append]
    rfl
  · rw [if_neg hij, List.filter_cons_of_neg, List.filter_nil, List.append_nil]
    rw [decide_eq_true_eq]
    intro e2
    have h3 : ∀ {i j : Nat} (hi : i < ((repsG κ k).map κ).length) (hj : j < ((repsG κ k).map κ).length), i < j → ((repsG κ k).map κ)[i] ≠ ((repsG κ k).map κ)[j] := fun {i j} hi hj h => List.pairwise_iff_getElem.1 hnd i j hi hj h
    rcases Nat.lt_or_gt_of_ne hij with h4 | h4
    · exact h3 (by simpa using hi) (by simpa using hj) h4 (by rw [List.getElem_map, List.getElem_map]; exact e.trans e2)
    · exact h3 (by simpa using hj) (by simpa using hi) h4 (by rw [List.getElem_map, List.getElem_map]; exact (e.trans e2).symm)
end
open Go.RowKit Go.Sort
open Go.RowKit Go.Sort
end Go.Proofs.YtoaggmegmgdgbaaGreat
