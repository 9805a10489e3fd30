import Derived.Test.YtoaggmegmgdgbaaGreatLamR
import Derived.Test.YtoaggmegmgdgbaaGreatLamP
import Derived.Test.YtoaggmegmgdgbaaGreatRRise
import Derived.Test.YtoaggmegmgdgbaaGreatTail
import Derived.Test.YtoaggmegmgdgbaaGreatRLfB
namespace Go.Proofs.YtoaggmegmgdgbaaGreat
open Go.RowKit Go.Sort
def apartR (L : List Lf) (n1 : Bool) (a1 d1 : ByteArray) (n2 : Bool) (a2 d2 : ByteArray) : Bool × Int :=
  if okA n1 a1 d1 then (if okA n2 a2 d2 then (L.any fun l => partsP l (be (sl a1), be (sl d1)) (be (sl a2), be (sl d2)), 0) else (false, 210)) else (false, 210)
theorem any_of_get {L : List Lf} {f : Lf → Bool} {i : Nat} (hi : i < L.length) (h : f L[i]! = true) : L.any f = true := List.any_eq_true.2 ⟨_, getBang_mem hi, h⟩
theorem any_not {L : List Lf} {f : Lf → Bool} (h : ∀ i, i < L.length → f L[i]! = false) : L.any f = false := List.any_eq_false.2 (fun m hm => by
  obtain ⟨i, hi, rfl⟩ := List.mem_iff_getElem.1 hm
  have := h i hi
  rw [getElem!_pos L i hi] at this
  rw [this]; exact Bool.false_ne_true)
set_option maxRecDepth 100000 in
set_option maxHeartbeats 4000000 in
theorem lApart_any (B x : Nat) (v : Value) (L : List Lf) (n1 : Bool) (a1 d1 : ByteArray) (n2 : Bool) (a2 d2 : ByteArray) (w : World) (hS : LamS w B x v L) (z1 : a1.size ≤ 9223372036854775807) (y1 : d1.size ≤ 9223372036854775807) (z2 : a2.size ≤ 9223372036854775807) (y2 : d2.size ≤ 9223372036854775807) :
    Calls Tryz.prog 37 #[.pointer (some ⟨x, 0, none⟩), .agg #[.bool n1, .string a1, .string d1], .agg #[.bool n2, .string a2, .string d2]] w (RetVal (.tuple #[.bool (apartR L n1 a1 d1 n2 a2 d2).1, .int .i64 (apartR L n1 a1 d1 n2 a2 d2).2]) w) := by
  obtain ⟨A, c, rfl, hA⟩ := LRow.form hS.lam.row
  have hN : Hid (∀ W, Blk W x 103 #[.bool true, .slice A L.length c] → Calls Tryz.prog 76 #[.pointer (some ⟨x, 0, none⟩)] W (RetVal (.bool false) W)) := Lib.hid (fun W h => lnone_any x true _ W h)
  have hCa := Lib.hid (fun W => check_any n1 a1 d1 W z1 y1)
  have hCb := Lib.hid (fun W => check_any n2 a2 d2 W z2 y2)
  have hLm := Lib.hid hS.lam
  have hlen := hS.len
  have hM := hS.ok.ang
  obtain ⟨RV, hr⟩ : ∃ r, r = apartR L n1 a1 d1 n2 a2 d2 := ⟨_, rfl⟩
  rw [← hr]
  unfold apartR at hr
  replace hr := Lib.hid hr
  cases h1 : okA n1 a1 d1
  case false =>
    rw [h1] at hCa
    replace hr := Lib.hid (hr.out.trans (by rw [h1]; rfl : _ = (false, (210 : Int))))
    clear h1 hCb z1 y1 z2 y2 hS hM hA hlen
    have hBW : Below w.heap.size w ((w.alloc (.cells #[.bool n1, .string a1, .string d1] 26)).alloc (.cells #[.bool n2, .string a2, .string d2] 26)) := (((Below.refl _ w).alloc (Nat.le_refl _) _).alloc (by simp) _)
    have kk0 := ((Blk.new w 26 #[.bool n1, .string a1, .string d1]).alloc (.cells #[.bool n2, .string a2, .string d2] 26))
    have kk1 := (Blk.new (w.alloc (.cells #[.bool n1, .string a1, .string d1] 26)) 26 #[.bool n2, .string a2, .string d2])
    simp only [World.size_alloc] at kk1
    have K := Lib.hid ((KeepT.one kk0).snoc kk1)
    have hB := Lib.hid hBW
    clear hBW kk0 kk1
    replace hLm := Lib.hid ((hLm.out.alloc (.cells #[.bool n1, .string a1, .string d1] 26)).alloc (.cells #[.bool n2, .string a2, .string d2] 26))
    go_enter Tryz.func37, Tryz.ntmps37
    go_upto_region 1 with fail
    generalize hW : ((w.alloc (.cells #[.bool n1, .string a1, .string d1] 26)).alloc (.cells #[.bool n2, .string a2, .string d2] 26)) = w1 at hB K hLm ⊢
    clear hW
    go_wp2_with fail
    refine (hN.out _ hLm.out.blk).mono ?_
    rintro en w2 ⟨rfl, hb⟩
    replace hB := Lib.hid (hB.out.trans (hb.mono hB.out.size))
    replace K := Lib.hid ((K.out.below hb))
    replace hLm := Lib.hid ((hLm.out.below hb))
    clear  hb hN
    have pa0 : w2.cell? ⟨w.heap.size, 0, none⟩ = some (.bool n1) := (K.out.at_ 0 rfl).cell 0
    have pa1 : w2.cell? ⟨w.heap.size, 1, none⟩ = some (.string a1) := (K.out.at_ 0 rfl).cell 1
    have pa2 : w2.cell? ⟨w.heap.size, 2, none⟩ = some (.string d1) := (K.out.at_ 0 rfl).cell 2
    go_wp2_with fail
    refine (hCa.out _).mono ?_
    rintro en w3 ⟨rfl, hb⟩
    replace hB := Lib.hid (hB.out.trans (hb.mono hB.out.size))
    replace K := Lib.hid ((K.out.below hb))
    replace hLm := Lib.hid ((hLm.out.below hb))
    clear pa0 pa1 pa2 hb hCa
    clear K hLm
    go_wp2_with fail
    go_ret2
    exact ⟨by rw [hr.out]; rfl, hB.out⟩
  case true =>
    cases h2 : okA n2 a2 d2
    case false =>
      rw [h1] at hCa
      rw [h2] at hCb
      replace hr := Lib.hid (hr.out.trans (by rw [h1, h2]; rfl : _ = (false, (210 : Int))))
      clear h1 h2 z1 y1 z2 y2 hS hM hA hlen
      have hBW : Below w.heap.size w ((w.alloc (.cells #[.bool n1, .string a1, .string d1] 26)).alloc (.cells #[.bool n2, .string a2, .string d2] 26)) := (((Below.refl _ w).alloc (Nat.le_refl _) _).alloc (by simp) _)
      have kk0 := ((Blk.new w 26 #[.bool n1, .string a1, .string d1]).alloc (.cells #[.bool n2, .string a2, .string d2] 26))
      have kk1 := (Blk.new (w.alloc (.cells #[.bool n1, .string a1, .string d1] 26)) 26 #[.bool n2, .string a2, .string d2])
      simp only [World.size_alloc] at kk1
      have K := Lib.hid ((KeepT.one kk0).snoc kk1)
      have hB := Lib.hid hBW
      clear hBW kk0 kk1
      replace hLm := Lib.hid ((hLm.out.alloc (.cells #[.bool n1, .string a1, .string d1] 26)).alloc (.cells #[.bool n2, .string a2, .string d2] 26))
      go_enter Tryz.func37, Tryz.ntmps37
      go_upto_region 1 with fail
      generalize hW : ((w.alloc (.cells #[.bool n1, .string a1, .string d1] 26)).alloc (.cells #[.bool n2, .string a2, .string d2] 26)) = w1 at hB K hLm ⊢
      clear hW
      go_wp2_with fail
      refine (hN.out _ hLm.out.blk).mono ?_
      rintro en w2 ⟨rfl, hb⟩
      replace hB := Lib.hid (hB.out.trans (hb.mono hB.out.size))
      replace K := Lib.hid ((K.out.below hb))
      replace hLm := Lib.hid ((hLm.out.below hb))
      clear  hb hN
      have pa0 : w2.cell? ⟨w.heap.size, 0, none⟩ = some (.bool n1) := (K.out.at_ 0 rfl).cell 0
      have pa1 : w2.cell? ⟨w.heap.size, 1, none⟩ = some (.string a1) := (K.out.at_ 0 rfl).cell 1
      have pa2 : w2.cell? ⟨w.heap.size, 2, none⟩ = some (.string d1) := (K.out.at_ 0 rfl).cell 2
      go_wp2_with fail
      refine (hCa.out _).mono ?_
      rintro en w3 ⟨rfl, hb⟩
      replace hB := Lib.hid (hB.out.trans (hb.mono hB.out.size))
      replace K := Lib.hid ((K.out.below hb))
      replace hLm := Lib.hid ((hLm.out.below hb))
      clear pa0 pa1 pa2 hb hCa
      have pb0 : w3.cell? ⟨w.heap.size + 1, 0, none⟩ = some (.bool n2) := (K.out.at_ 1 rfl).cell 0
      have pb1 : w3.cell? ⟨w.heap.size + 1, 1, none⟩ = some (.string a2) := (K.out.at_ 1 rfl).cell 1
      have pb2 : w3.cell? ⟨w.heap.size + 1, 2, none⟩ = some (.string d2) := (K.out.at_ 1 rfl).cell 2
      go_wp2_with fail
      refine (hCb.out _).mono ?_
      rintro en w4 ⟨rfl, hb⟩
      replace hB := Lib.hid (hB.out.trans (hb.mono hB.out.size))
      replace K := Lib.hid ((K.out.below hb))
      replace hLm := Lib.hid ((hLm.out.below hb))
      clear pb0 pb1 pb2 hb hCb
      clear K hLm
      go_wp2_with fail
      go_ret2
      exact ⟨by rw [hr.out]; rfl, hB.out⟩
    case true =>
      rw [h1] at hCa
      rw [h2] at hCb
      obtain ⟨b1, b2, b3, b4⟩ := Ang.of_ok h1
      obtain ⟨c1, c2, c3, c4⟩ := Ang.of_ok h2
      obtain ⟨p, hp⟩ : ∃ p : Nat × Nat, p = (be (sl a1), be (sl d1)) := ⟨_, rfl⟩
      obtain ⟨q, hq⟩ : ∃ p : Nat × Nat, p = (be (sl a2), be (sl d2)) := ⟨_, rfl⟩
      rw [← hp] at b1
      rw [← hq] at c1
      have e1 : n1 = false ∧ a1 = natS p.1 ∧ d1 = natS p.2 := by rw [hp]; exact ⟨b2, b3, b4⟩
      have e2 : n2 = false ∧ a2 = natS q.1 ∧ d2 = natS q.2 := by rw [hq]; exact ⟨c2, c3, c4⟩
      replace hr := Lib.hid (hr.out.trans (by rw [h1, h2, ← hp, ← hq]; rfl : _ = (L.any fun l => partsP l p q, (0 : Int))))
      clear h1 h2 hp hq b2 b3 b4 c2 c3 c4 z1 y1 z2 y2
      obtain ⟨rfl, rfl, rfl⟩ := e1
      obtain ⟨rfl, rfl, rfl⟩ := e2
      have hX : Hid (∀ (t : Nat) (m : Lf) (b : Bool), t < L.length → m = L[t]! → b = partsP m p q → ∀ W, Calls Tryz.prog 89 #[.agg #[.bool false, .string (natS m.1.1), .string (natS m.1.2), .bool false, .string (natS m.2.1), .string (natS m.2.2)], .agg #[.bool false, .string (natS p.1), .string (natS p.2)], .agg #[.bool false, .string (natS q.1), .string (natS q.2)]] W (RetVal (.bool b) W)) := Lib.hid (fun t m b ht hm hb W => by
        subst hm hb
        exact lparts_any _ p q W (hM _ (getBang_mem ht)) b1 c1)
      clear b1 c1 hS hM
      obtain ⟨n, hn⟩ : ∃ n, n = L.length := ⟨_, rfl⟩
      have hn4 : n ≤ 1048576 := by omega
      replace hn := Lib.hid hn
      clear hlen
      have hBW : Below w.heap.size w ((w.alloc (.cells #[.bool false, .string (natS p.1), .string (natS p.2)] 26)).alloc (.cells #[.bool false, .string (natS q.1), .string (natS q.2)] 26)) := (((Below.refl _ w).alloc (Nat.le_refl _) _).alloc (by simp) _)
      have kk0 := ((Blk.new w 26 #[.bool false, .string (natS p.1), .string (natS p.2)]).alloc (.cells #[.bool false, .string (natS q.1), .string (natS q.2)] 26))
      have kk1 := (Blk.new (w.alloc (.cells #[.bool false, .string (natS p.1), .string (natS p.2)] 26)) 26 #[.bool false, .string (natS q.1), .string (natS q.2)])
      simp only [World.size_alloc] at kk1
      have K := Lib.hid ((KeepT.one kk0).snoc kk1)
      have hB := Lib.hid hBW
      clear hBW kk0 kk1
      replace hLm := Lib.hid ((hLm.out.alloc (.cells #[.bool false, .string (natS p.1), .string (natS p.2)] 26)).alloc (.cells #[.bool false, .string (natS q.1), .string (natS q.2)] 26))
      go_enter Tryz.func37, Tryz.ntmps37
      go_upto_region 1 with fail
      generalize hW : ((w.alloc (.cells #[.bool false, .string (natS p.1), .string (natS p.2)] 26)).alloc (.cells #[.bool false, .string (natS q.1), .string (natS q.2)] 26)) = w1 at hB K hLm ⊢
      clear hW
      go_wp2_with fail
      refine (hN.out _ hLm.out.blk).mono ?_
      rintro en w2 ⟨rfl, hb⟩
      replace hB := Lib.hid (hB.out.trans (hb.mono hB.out.size))
      replace K := Lib.hid ((K.out.below hb))
      replace hLm := Lib.hid ((hLm.out.below hb))
      clear  hb hN
      have pa0 : w2.cell? ⟨w.heap.size, 0, none⟩ = some (.bool false) := (K.out.at_ 0 rfl).cell 0
      have pa1 : w2.cell? ⟨w.heap.size, 1, none⟩ = some (.string (natS p.1)) := (K.out.at_ 0 rfl).cell 1
      have pa2 : w2.cell? ⟨w.heap.size, 2, none⟩ = some (.string (natS p.2)) := (K.out.at_ 0 rfl).cell 2
      go_wp2_with fail
      refine (hCa.out _).mono ?_
      rintro en w3 ⟨rfl, hb⟩
      replace hB := Lib.hid (hB.out.trans (hb.mono hB.out.size))
      replace K := Lib.hid ((K.out.below hb))
      replace hLm := Lib.hid ((hLm.out.below hb))
      clear pa0 pa1 pa2 hb hCa
      have pb0 : w3.cell? ⟨w.heap.size + 1, 0, none⟩ = some (.bool false) := (K.out.at_ 1 rfl).cell 0
      have pb1 : w3.cell? ⟨w.heap.size + 1, 1, none⟩ = some (.string (natS q.1)) := (K.out.at_ 1 rfl).cell 1
      have pb2 : w3.cell? ⟨w.heap.size + 1, 2, none⟩ = some (.string (natS q.2)) := (K.out.at_ 1 rfl).cell 2
      go_wp2_with fail
      refine (hCb.out _).mono ?_
      rintro en w4 ⟨rfl, hb⟩
      replace hB := Lib.hid (hB.out.trans (hb.mono hB.out.size))
      replace K := Lib.hid ((K.out.below hb))
      replace hLm := Lib.hid ((hLm.out.below hb))
      clear pb0 pb1 pb2 hb hCb
      have y1 : w4.cell? ⟨x, 1, none⟩ = some (.slice A n c) := by rw [hn.out]; exact hLm.out.blk.cell 1
      go_wp2
      clear y1
      go_loopg [29] n (fun kx s29 wr => ∃ i : Nat, s29 = .int .i64 (i : Int) ∧ i ≤ n ∧ n - i ≤ kx ∧ Hid (∀ t, t < i → partsP L[t]! p q = false) ∧ Hid (Below w4.heap.size w4 wr))
      case atStart => exact ⟨0, rfl, Nat.zero_le _, Nat.le_refl _, Lib.hid (fun t ht => absurd ht (Nat.not_lt_zero _)), Lib.hid (Below.refl _ _)⟩
      case round =>
        obtain ⟨i, rfl, hin, hg, I, hb⟩ := hrel
        by_cases hlt : i < n
        case pos =>
          have hil : i < L.length := by rw [← hn.out]; exact hlt
          obtain ⟨g, rfl⟩ := hA (by omega)
          clear hA
          obtain ⟨m, hm⟩ : ∃ m, m = L[i]! := ⟨_, rfl⟩
          obtain ⟨b, hbm⟩ : ∃ b, b = partsP m p q := ⟨_, rfl⟩
          have hXi := Lib.hid (hX.out i m b hil hm hbm)
          have hC := LRow.cell (hLm.out.below hb.out).row hil
          rw [← hm] at hC
          have m0 : wr.cell? ⟨g, i * 6, none⟩ = some (.bool false) := hC 0 _ rfl
          have m1 : wr.cell? ⟨g, i * 6 + 1, none⟩ = some (.string (natS m.1.1)) := hC 1 _ rfl
          have m2 : wr.cell? ⟨g, i * 6 + 2, none⟩ = some (.string (natS m.1.2)) := hC 2 _ rfl
          have m3 : wr.cell? ⟨g, i * 6 + 3, none⟩ = some (.bool false) := hC 3 _ rfl
          have m4 : wr.cell? ⟨g, i * 6 + 4, none⟩ = some (.string (natS m.2.1)) := hC 4 _ rfl
          have m5 : wr.cell? ⟨g, i * 6 + 5, none⟩ = some (.string (natS m.2.2)) := hC 5 _ rfl
          clear hC hil
          have hiz : (i : Int) < (n : Int) := by omega
          have hb2 := Lib.hid (hb.out.alloc hb.out.size (.cells #[.bool false, .string (natS m.1.1), .string (natS m.1.2), .bool false, .string (natS m.2.1), .string (natS m.2.2)] 38))
          have KW := Lib.hid (((K.out.below hb.out).alloc (.cells #[.bool false, .string (natS m.1.1), .string (natS m.1.2), .bool false, .string (natS m.2.1), .string (natS m.2.2)] 38)).snoc (Blk.new wr 38 #[.bool false, .string (natS m.1.1), .string (natS m.1.2), .bool false, .string (natS m.2.1), .string (natS m.2.2)]))
          replace I := Lib.hid I.out
          replace hm := Lib.hid hm
          replace hbm := Lib.hid hbm
          go_upto_region 12 with fail
          generalize hW : wr.alloc (.cells #[.bool false, .string (natS m.1.1), .string (natS m.1.2), .bool false, .string (natS m.2.1), .string (natS m.2.2)] 38) = wa at hb2 KW ⊢
          generalize hgg : wr.heap.size = ga at KW ⊢
          clear hW hgg m0 m1 m2 m3 m4 m5 hiz hb
          have pa0 : wa.cell? ⟨w.heap.size, 0, none⟩ = some (.bool false) := (KW.out.at_ 0 rfl).cell 0
          have pa1 : wa.cell? ⟨w.heap.size, 1, none⟩ = some (.string (natS p.1)) := (KW.out.at_ 0 rfl).cell 1
          have pa2 : wa.cell? ⟨w.heap.size, 2, none⟩ = some (.string (natS p.2)) := (KW.out.at_ 0 rfl).cell 2
          have pb0 : wa.cell? ⟨w.heap.size + 1, 0, none⟩ = some (.bool false) := (KW.out.at_ 1 rfl).cell 0
          have pb1 : wa.cell? ⟨w.heap.size + 1, 1, none⟩ = some (.string (natS q.1)) := (KW.out.at_ 1 rfl).cell 1
          have pb2 : wa.cell? ⟨w.heap.size + 1, 2, none⟩ = some (.string (natS q.2)) := (KW.out.at_ 1 rfl).cell 2
          have mm0 : wa.cell? ⟨ga, 0, none⟩ = some (.bool false) := (KW.out.at_ 2 rfl).cell 0
          have mm1 : wa.cell? ⟨ga, 1, none⟩ = some (.string (natS m.1.1)) := (KW.out.at_ 2 rfl).cell 1
          have mm2 : wa.cell? ⟨ga, 2, none⟩ = some (.string (natS m.1.2)) := (KW.out.at_ 2 rfl).cell 2
          have mm3 : wa.cell? ⟨ga, 3, none⟩ = some (.bool false) := (KW.out.at_ 2 rfl).cell 3
          have mm4 : wa.cell? ⟨ga, 4, none⟩ = some (.string (natS m.2.1)) := (KW.out.at_ 2 rfl).cell 4
          have mm5 : wa.cell? ⟨ga, 5, none⟩ = some (.string (natS m.2.2)) := (KW.out.at_ 2 rfl).cell 5
          go_wp2_with fail
          refine (hXi.out _).mono ?_
          rintro en wc ⟨rfl, hb⟩
          replace hb2 := Lib.hid (hb2.out.trans (hb.mono hb2.out.size))
          clear hb hXi KW
          clear pa0 pa1 pa2 pb0 pb1 pb2 mm0 mm1 mm2 mm3 mm4 mm5
          cases b
          case true =>
            have hZ := Lib.hid (hB.out.trans (hb2.out.mono hB.out.size))
            have hA1 : Hid (RV = (true, (0 : Int))) := Lib.hid (hr.out.trans (by rw [any_of_get (i := i) (by rw [← hn.out]; exact hlt) (by rw [← hm.out]; exact hbm.out.symm)]))
            clear K hLm hX hb2 hr
            go_wp2_with fail
            go_ret2
            exact ⟨by rw [hA1.out]; rfl, hZ.out⟩
          case false =>
            go_wp2_with fail
            go_roundg (n - (i + 1))
            case measure => omega
            case rel =>
              exact ⟨i + 1, by go_num, by omega, Nat.le_refl _, Lib.hid (fun t ht => by
                rcases Nat.lt_or_ge t i with h | h
                · exact I.out t h
                · obtain rfl : t = i := by omega
                  rw [← hm.out, ← hbm.out]), hb2⟩
        case neg =>
          obtain rfl : i = n := by omega
          replace hB := Lib.hid (hB.out.trans (hb.out.mono hB.out.size))
          have hA1 : Hid (RV = (false, (0 : Int))) := Lib.hid (hr.out.trans (by rw [any_not (fun t ht => I.out t (by rw [hn.out]; exact ht))]))
          clear hb hA I hg K hLm hX hr
          go_wp2_with fail
          go_ret2
          exact ⟨by rw [hA1.out]; rfl, hB.out⟩
open Go.RowKit Go.Sort
def overG (L : List Lf) (f : PT) (t : Nat) : Prop := t < L.length ∧ ky L[t]!.1 ≤ ky f ∧ ky f < ky L[t]!.2
theorem popG_filter {L : List Lf} {f : PT} (hL : ∀ m, m ∈ L → AngL m) (hf : Ang f) : ∀ {P : List Nat}, (∀ t, t ∈ P → t < L.length ∧ ky f ≤ ky L[t]!.2) → P.Pairwise (fun a b => ky L[a]!.2 ≤ ky L[b]!.2) → popG L f P = P.filter (fun t => decide (ky f < ky L[t]!.2))
  | [], _, _ => rfl
  | t :: r, h, hp => by
    rw [popG]
    rw [List.pairwise_cons] at hp
    have ht := h t (List.mem_cons_self ..)
    have hang := (hL _ (getBang_mem ht.1)).2
    split
    · rename_i e
      rw [popG_filter hL hf (fun s hs => h s (List.mem_cons_of_mem _ hs)) hp.2, List.filter_cons_of_neg]
      rw [e]
      simp
    · rename_i e
      have h1 : ky f < ky L[t]!.2 := Nat.lt_of_le_of_ne ht.2 (fun x => e ((ky_eq hang hf).2 x.symm))
      refine (List.filter_eq_self.2 fun s hs => decide_eq_true ?_).symm
      rcases List.mem_cons.1 hs with rfl | hs
      · exact h1
      · exact Nat.lt_of_lt_of_le h1 (hp.1 s hs)
theorem LOk.get {L : List Lf} (h : LOk L) {t : Nat} (ht : t < L.length) : Lfp L[t]! := h.lf _ (getBang_mem ht)
theorem LOk.sorted {L : List Lf} (h : LOk L) {i j : Nat} (hij : i < j) (hj : j < L.length) : ky L[i]!.1 < ky L[j]!.1 ∨ (ky L[i]!.1 = ky L[j]!.1 ∧ ky L[i]!.2 < ky L[j]!.2) := by
  have h1 := List.pairwise_iff_getElem.1 h.up i j (by omega) hj hij
  rw [← getElem!_pos L i (by omega), ← getElem!_pos L j hj] at h1
  exact (ordL_ky (h.get (by omega)).1 (h.get hj).1).1 h1
theorem LOk.mono {L : List Lf} (h : LOk L) {i j : Nat} (hij : i ≤ j) (hj : j < L.length) : ky L[i]!.1 ≤ ky L[j]!.1 := by
  rcases Nat.lt_or_eq_of_le hij with h1 | h1
  · rcases h.sorted h1 hj with h2 | h2
    · omega
    · omega
  · subst h1; exact Nat.le_refl _
theorem LOk.inj {L : List Lf} (h : LOk L) {i j : Nat} (hi : i < L.length) (hj : j < L.length) (h1 : ky L[i]!.1 = ky L[j]!.1) (h2 : ky L[i]!.2 = ky L[j]!.2) : i = j := by
  rcases Nat.lt_trichotomy i j with h3 | h3 | h3
  · rcases h.sorted h3 hj with h4 | h4 <;> omega
  · exact h3
  · rcases h.sorted h3 hi with h4 | h4 <;> omega
theorem LOk.nest {L : List Lf} (h : LOk L) {i j : Nat} (hi : i < L.length) (hj : j < L.length) (h1 : ky L[i]!.1 < ky L[j]!.1) (h2 : ky L[j]!.1 < ky L[i]!.2) : ky L[j]!.2 ≤ ky L[i]!.2 := by
  have h3 := h.nc _ _ (getBang_mem hi) (getBang_mem hj)
  rcases Nat.lt_or_ge (ky L[i]!.2) (ky L[j]!.2) with h4 | h4
  · have h5 := (crossP_ky (h.get hi) (h.get hj)).2 (.inl ⟨h1, h2, h4⟩)
    rw [h3] at h5
    exact Bool.noConfusion h5
  · exact h4
structure PreG (L : List Lf) (f : PT) (s : GSt) : Prop where
  pile : ∀ t, t ∈ s.pile ↔ t < L.length ∧ ky L[t]!.1 < ky f ∧ ky f ≤ ky L[t]!.2
  nest : s.pile.Pairwise fun a b => ky L[b]!.1 ≤ ky L[a]!.1 ∧ ky L[a]!.2 ≤ ky L[b]!.2
  next : ∀ t, t < L.length → (t < s.next ↔ ky L[t]!.1 < ky f)
structure PostG (L : List Lf) (f : PT) (s : GSt) : Prop where
  pile : ∀ t, t ∈ s.pile ↔ overG L f t
  nest : s.pile.Pairwise fun a b => ky L[b]!.1 ≤ ky L[a]!.1 ∧ ky L[a]!.2 ≤ ky L[b]!.2
  next : ∀ t, t < L.length → (t < s.next ↔ ky L[t]!.1 ≤ ky f)
theorem PreG.step {L : List Lf} {E : List PT} {k : Nat} {f : PT} {s : GSt} (hL : LOk L) (hf : Ang f) (hE : E[k]! = f) (h : PreG L f s) : PostG L f (stepG2 L E s k) := by
  have hpop : popG L f s.pile = s.pile.filter (fun t => decide (ky f < ky L[t]!.2)) := popG_filter hL.ang hf (fun t ht => ⟨((h.pile t).1 ht).1, ((h.pile t).1 ht).2.2⟩) (h.nest.imp fun hab => hab.2)
  obtain ⟨c, hc⟩ : ∃ c, c = runG L f s.next := ⟨_, rfl⟩
  have hhit : ∀ t, s.next ≤ t → t < s.next + c → t < L.length ∧ L[t]!.1 = f := fun t h1 h2 => by
    have := runG_hit (L := L) (f := f) (next := s.next) (j := t - s.next) (by omega)
    rwa [show s.next + (t - s.next) = t by omega] at this
  have hnext : ∀ t, t < L.length → (t < s.next + c ↔ ky L[t]!.1 ≤ ky f) := fun t ht => by
    constructor
    · intro h1
      rcases Nat.lt_or_ge t s.next with h2 | h2
      · exact Nat.le_of_lt ((h.next t ht).1 h2)
      · rw [(hhit t h2 h1).2]; exact Nat.le_refl _
    · intro h1
      rcases Nat.lt_or_ge t (s.next + c) with h2 | h2
      · exact h2
      · have hj : s.next + c < L.length := by omega
        have hne : (L[s.next + c]!).1 ≠ f := by rw [hc]; exact runG_stop (by rw [← hc]; exact hj)
        have h3 : ¬ ky L[s.next + c]!.1 < ky f := fun x => by have := (h.next _ hj).2 x; omega
        have h4 : ky L[s.next + c]!.1 ≠ ky f := fun x => hne ((ky_eq (hL.get hj).1.1 hf).2 x)
        have h5 := hL.mono h2 ht
        omega
  have e1 : (stepG2 L E s k).pile = List.range' s.next c ++ s.pile.filter (fun t => decide (ky f < ky L[t]!.2)) := by
    show List.range' s.next (runG L E[k]! s.next) ++ popG L E[k]! s.pile = _
    rw [hE, hpop, hc]
  have e2 : (stepG2 L E s k).next = s.next + c := by
    show s.next + runG L E[k]! s.next = _
    rw [hE, hc]
  refine ⟨fun t => ?_, ?_, fun t ht => by rw [e2]; exact hnext t ht⟩
  · rw [e1, List.mem_append, List.mem_range'_1, List.mem_filter, h.pile, decide_eq_true_eq]
    constructor
    · rintro (⟨h1, h2⟩ | ⟨⟨h1, h2, -⟩, h3⟩)
      · obtain ⟨h3, h4⟩ := hhit t h1 h2
        have := (hL.get h3).ky
        rw [h4] at this
        exact ⟨h3, by rw [h4]; exact Nat.le_refl _, this⟩
      · exact ⟨h1, Nat.le_of_lt h2, h3⟩
    · rintro ⟨h1, h2, h3⟩
      rcases Nat.lt_or_eq_of_le h2 with h4 | h4
      · exact .inr ⟨⟨h1, h4, Nat.le_of_lt h3⟩, h3⟩
      · refine .inl ⟨?_, (hnext t h1).2 h2⟩
        rcases Nat.lt_or_ge t s.next with h5 | h5
        · have := (h.next t h1).1 h5; omega
        · exact h5
  · rw [e1, List.pairwise_append]
    refine ⟨?_, h.nest.filter _, fun a ha b hb => ?_⟩
    · refine List.Pairwise.imp_of_mem (R := fun a b => a < b) (fun {a b} ha hb hab => ?_) (List.pairwise_lt_range' ..)
      rw [List.mem_range'_1] at ha hb
      obtain ⟨ha1, ha2⟩ := hhit a ha.1 ha.2
      obtain ⟨hb1, hb2⟩ := hhit b hb.1 hb.2
      refine ⟨by rw [ha2, hb2]; exact Nat.le_refl _, ?_⟩
      rcases hL.sorted hab hb1 with h1 | h1
      · rw [ha2, hb2] at h1; omega
      · omega
    · rw [List.mem_range'_1] at ha
      rw [List.mem_filter, h.pile, decide_eq_true_eq] at hb
      obtain ⟨ha1, ha2⟩ := hhit a ha.1 ha.2
      obtain ⟨⟨hb1, hb2, -⟩, hb3⟩ := hb
      refine ⟨by rw [ha2]; exact Nat.le_of_lt hb2, hL.nest hb1 ha1 (by rw [ha2]; exact hb2) (by rw [ha2]; exact hb3)⟩
def endsR (L : List Lf) : List PT := riseL (endsL L)
theorem endsR_ang {L : List Lf} (hL : LOk L) : ∀ p, p ∈ endsR L → Ang p := fun p hp => endsL_ang hL.ang p (riseL_mem.1 hp)
theorem endsR_lt {L : List Lf} (hL : LOk L) {i j : Nat} (hi : i < (endsR L).length) (hj : j < (endsR L).length) : ky (endsR L)[i]! < ky (endsR L)[j]! ↔ i < j := by
  have hE := endsR_ang hL
  have hr : Rises below_ (endsR L) := riseL_rises (endsL_ang hL.ang)
  constructor
  · intro h
    rcases Nat.lt_trichotomy i j with h1 | h1 | h1
    · exact h1
    · subst h1; omega
    · have := rise_ky hE hr h1 hi; omega
  · intro h; exact rise_ky hE hr h hj
theorem endsR_le {L : List Lf} (hL : LOk L) {i j : Nat} (hi : i < (endsR L).length) (hj : j < (endsR L).length) : ky (endsR L)[i]! ≤ ky (endsR L)[j]! ↔ i ≤ j := by
  have := endsR_lt hL hj hi
  omega
theorem endsR_at {L : List Lf} {t : Nat} (ht : t < L.length) : (∃ i, i < (endsR L).length ∧ (endsR L)[i]! = L[t]!.1) ∧ (∃ i, i < (endsR L).length ∧ (endsR L)[i]! = L[t]!.2) := by
  have h : ∀ p, p ∈ endsR L → ∃ i, i < (endsR L).length ∧ (endsR L)[i]! = p := fun p hp => by
    obtain ⟨i, hi, e⟩ := List.mem_iff_getElem.1 hp
    exact ⟨i, hi, by rw [getElem!_pos (endsR L) i hi]; exact e⟩
  have hm : ∀ p, p = L[t]!.1 ∨ p = L[t]!.2 → p ∈ endsR L := fun p hp => riseL_mem.2 (List.mem_flatMap.2 ⟨L[t]!, getBang_mem ht, by rcases hp with rfl | rfl <;> simp⟩)
  exact ⟨h _ (hm _ (.inl rfl)), h _ (hm _ (.inr rfl))⟩
theorem gapSt_post {L : List Lf} (hL : LOk L) : ∀ k, k < (endsR L).length → PostG L (endsR L)[k]! (gapSt L (k + 1))
  | 0, h0 => by
    rw [gapSt_succ]
    refine PreG.step hL (endsR_ang hL _ (by rw [getElem!_pos (endsR L) 0 h0]; exact List.getElem_mem h0)) rfl ⟨fun t => ?_, List.Pairwise.nil, fun t ht => ?_⟩
    · constructor
      · intro h; exact absurd h (by simp [gapSt])
      · rintro ⟨h1, h2, -⟩
        obtain ⟨i, hi, e⟩ := (endsR_at h1).1
        rw [← e, endsR_lt hL hi h0] at h2
        exact absurd h2 (Nat.not_lt_zero _)
    · constructor
      · intro h; exact absurd h (by simp [gapSt])
      · intro h
        obtain ⟨i, hi, e⟩ := (endsR_at ht).1
        rw [← e, endsR_lt hL hi h0] at h
        exact absurd h (Nat.not_lt_zero _)
  | k + 1, hk => by
    have ih := gapSt_post hL k (by omega)
    rw [gapSt_succ]
    refine PreG.step hL (endsR_ang hL _ (by rw [getElem!_pos (endsR L) (k + 1) hk]; exact List.getElem_mem hk)) rfl ⟨fun t => ?_, ih.nest, fun t ht => ?_⟩
    · rw [ih.pile]
      refine and_congr_right fun ht => ?_
      obtain ⟨⟨i, hi, e⟩, ⟨j, hj, e2⟩⟩ := endsR_at ht
      rw [← e, ← e2, endsR_le hL hi (by omega), endsR_lt hL (by omega) hj, endsR_lt hL hi hk, endsR_le hL hk hj]
      omega
    · rw [ih.next t ht]
      obtain ⟨⟨i, hi, e⟩, -⟩ := endsR_at ht
      rw [← e, endsR_le hL hi (by omega), endsR_lt hL hi hk]
      omega
theorem top_iff {L : List Lf} (hL : LOk L) {f g : PT} {s u : GSt} (h : PostG L f s) (h' : PostG L g u) : topG s.pile = topG u.pile ↔ ∀ t, overG L f t ↔ overG L g t := by
  have key : ∀ {f g : PT} {s u : GSt}, PostG L f s → PostG L g u → topG s.pile = topG u.pile → ∀ t, overG L f t → overG L g t := fun {f g s u} h h' e t ht => by
    have hm := (h.pile t).2 ht
    cases hp : s.pile with
    | nil => rw [hp] at hm; exact absurd hm (by simp)
    | cons a r =>
      cases hq : u.pile with
      | nil => rw [hp, hq] at e; simp only [topG] at e; omega
      | cons b q =>
        rw [hp, hq] at e
        simp only [topG] at e
        obtain rfl : a = b := by omega
        have hb : overG L g a := (h'.pile a).1 (by rw [hq]; exact List.mem_cons_self ..)
        rw [hp] at hm
        rcases List.mem_cons.1 hm with rfl | hm
        · exact hb
        · have hn := h.nest
          rw [hp, List.pairwise_cons] at hn
          have h1 := hn.1 t hm
          exact ⟨ht.1, Nat.le_trans h1.1 hb.2.1, Nat.lt_of_lt_of_le hb.2.2 h1.2⟩
  constructor
  · intro e t
    exact ⟨key h h' e t, key h' h e.symm t⟩
  · intro e
    cases hp : s.pile with
    | nil =>
      cases hq : u.pile with
      | nil => rfl
      | cons b q =>
        have hb := (e b).2 ((h'.pile b).1 (by rw [hq]; exact List.mem_cons_self ..))
        have := (h.pile b).2 hb
        rw [hp] at this
        exact absurd this (by simp)
    | cons a r =>
      have ha := (h.pile a).1 (by rw [hp]; exact List.mem_cons_self ..)
      have ha' := (h'.pile a).2 ((e a).1 ha)
      cases hq : u.pile with
      | nil => rw [hq] at ha'; exact absurd ha' (by simp)
      | cons b q =>
        have hb := (h'.pile b).1 (by rw [hq]; exact List.mem_cons_self ..)
        have hb' := (h.pile b).2 ((e b).2 hb)
        have hn := h.nest
        have hn' := h'.nest
        rw [hp, List.pairwise_cons] at hn
        rw [hq, List.pairwise_cons] at hn'
        rw [hq] at ha'
        rw [hp] at hb'
        have hab : a = b := by
          rcases List.mem_cons.1 ha' with h1 | h1
          · exact h1
          · rcases List.mem_cons.1 hb' with h2 | h2
            · exact h2.symm
            · have h3 := hn'.1 a h1
              have h4 := hn.1 b h2
              exact hL.inj ha.1 hb.1 (by omega) (by omega)
        rw [hab]
        rfl
def repsG {α : Type} [DecidableEq α] (κ : Nat → α) : Nat → List Nat
  | 0 => []
  | k + 1 => if κ k ∈ (repsG κ k).map κ then repsG κ k else repsG κ k ++ [k]
def grpG {α β : Type} [DecidableEq α] (κ : Nat → α) (arc : Nat → β) (k : Nat) : List (List β) := (repsG κ k).map fun r => ((List.range k).filter fun j => decide (κ j = κ r)).map arc
section
variable {α α' β : Type} [DecidableEq α] [DecidableEq α'] {κ : Nat → α} {μ : Nat → α'} {arc : Nat → β}
theorem repsG_lt : ∀ k r, r ∈ repsG κ k → r < k
  | 0, r, h => absurd h (by simp [repsG])
  | k + 1, r, h => by
    rw [repsG] at h
    split at h
    · have := repsG_lt k r h; omega
    · rcases List.mem_append.1 h with h | h
      · have := repsG_lt k r h; omega
      · rw [List.mem_singleton.1 h]; omega
theorem repsG_mem : ∀ k j, j < k → κ j ∈ (repsG κ k).map κ
  | 0, j, h => absurd h (Nat.not_lt_zero _)
  | k + 1, j, h => by
    rw [repsG]
    rcases Nat.lt_or_ge j k with h1 | h1
    · have := repsG_mem k j h1
      split
      · exact this
      · rw [List.map_append]; exact List.mem_append_left _ this
    · obtain rfl : j = k := by omega
      split
      · assumption
      · simp
theorem repsG_nodup : ∀ k, ((repsG κ k).map κ).Nodup
  | 0 => by simp [repsG]
  | k + 1 => by
    rw [repsG]
    split
    · exact repsG_nodup k
    · rename_i h
      rw [List.map_append, List.nodup_append]
      refine ⟨repsG_nodup k, by simp, fun a ha b hb e => ?_⟩
      simp only [List.map_cons, List.map_nil, List.mem_singleton] at hb
      subst hb
      subst e
      exact h ha
theorem repsG_len : ∀ k, (repsG κ k).length ≤ k
  | 0 => by simp [repsG]
  | k + 1 => by
    have := repsG_len k
    rw [repsG]
    split
    · omega
    · rw [List.length_append]; simp; omega
theorem repsG_congr {n : Nat} (h : ∀ i j, i < n → j < n → (κ i = κ j ↔ μ i = μ j)) : ∀ k, k ≤ n → repsG κ k = repsG μ k
  | 0, _ => rfl
  | k + 1, hk => by
    have ih := repsG_congr h k (by omega)
    have e : κ k ∈ (repsG κ k).map κ ↔ μ k ∈ (repsG μ k).map μ := by
      rw [List.mem_map, List.mem_map, ih]
      constructor
      · rintro ⟨r, hr, e⟩
        exact ⟨r, hr, (h r k (by have := repsG_lt k r (κ := μ) hr; omega) (by omega)).1 e⟩
      · rintro ⟨r, hr, e⟩
        exact ⟨r, hr, (h r k (by have := repsG_lt k r (κ := μ) hr; omega) (by omega)).2 e⟩
    rw [repsG, repsG]
    by_cases hm : κ k ∈ (repsG κ k).map κ
    · rw [if_pos hm, if_pos (e.1 hm), ih]
    · rw [if_neg hm, if_neg (fun x => hm (e.2 x)), ih]
theorem grpG_congr {n : Nat} (h : ∀ i j, i < n → j < n → (κ i = κ j ↔ μ i = μ j)) : grpG κ arc n = grpG μ arc n := by
  unfold grpG
  rw [repsG_congr h n (Nat.le_refl _)]
  refine List.map_congr_left fun r hr => ?_
  have hrn := repsG_lt n r hr
  congr 1
  refine List.filter_congr fun j hj => ?_
  rw [List.mem_range] at hj
  exact decide_eq_decide.2 (h j r hj hrn)
theorem modify_end (x : β) : ∀ l : List (List β), (l ++ [[]]).modify l.length (· ++ [x]) = l ++ [[x]]
  | [] => rfl
  | a :: r => by
    show a :: (r ++ [[]]).modify r.length _ = _
    rw [modify_end x r]
    rfl
theorem grpG_len (k : Nat) : (grpG κ arc k).length = (repsG κ k).length := by simp [grpG]
theorem filter_none {k r : Nat} (h : κ k ∉ (repsG κ k).map κ) (e : κ r = κ k) : (List.range k).filter (fun j => decide (κ j = κ r)) = [] := by
  rw [List.filter_eq_nil_iff]
  intro j hj
  rw [List.mem_range] at hj
  rw [decide_eq_true_eq]
  intro e2
  have := repsG_mem (κ := κ) k j hj
  rw [e2, e] at this
  exact h this
theorem grpG_new {k : Nat} (h : κ k ∉ (repsG κ k).map κ) : grpG κ arc (k + 1) = grpG κ arc k ++ [[arc k]] := by
  unfold grpG
  rw [repsG, if_neg h, List.map_append]
  congr 1
  · refine List.map_congr_left fun r hr => ?_
    have hne : κ k ≠ κ r := fun e => h (by rw [e]; exact List.mem_map_of_mem hr)
    rw [List.range_succ, List.filter_append, List.filter_cons_of_neg (by simpa using hne), List.filter_nil, List.append_nil]
  · rw [List.map_cons, List.map_nil, List.range_succ, List.filter_append, filter_none h rfl]
    simp
theorem grpG_old {k i : Nat} (hi : i < (repsG κ k).length) (e : κ (repsG κ k)[i] = κ k) : grpG κ arc (k + 1) = (grpG κ arc k).modify i (· ++ [arc k]) := by
  have hm : κ k ∈ (repsG κ k).map κ := by rw [← e]; exact List.mem_map_of_mem (List.getElem_mem hi)
  have hnd := repsG_nodup (κ := κ) k
  unfold grpG
  rw [repsG, if_pos hm]
  have hs : ∀ r, ((List.range (k + 1)).filter fun j => decide (κ j = κ r)) = ((List.range k).filter fun j => decide (κ j = κ r)) ++ ([k].filter fun j => decide (κ j = κ r)) := fun r => by rw [List.range_succ, List.filter_append]
  refine List.ext_getElem (by simp) fun j h1 h2 => ?_
  have hj : j < (repsG κ k).length := by simpa using h1
  rw [List.getElem_modify, List.getElem_map, List.getElem_map, hs]
  by_cases hij : i = j
  · subst hij
    rw [if_pos rfl, List.filter_cons_of_pos (by simpa using e.symm), List.filter_nil, List.map_append]
    rfl
  · rw [if_neg hij, List.filter_cons_of_neg, List.filter_nil, List.append_nil]
    rw [decide_eq_true_eq]
    intro e2
    have h3 : ∀ {i j : Nat} (hi : i < ((repsG κ k).map κ).length) (hj : j < ((repsG κ k).map κ).length), i < j → ((repsG κ k).map κ)[i] ≠ ((repsG κ k).map κ)[j] := fun {i j} hi hj h => List.pairwise_iff_getElem.1 hnd i j hi hj h
    rcases Nat.lt_or_gt_of_ne hij with h4 | h4
    · exact h3 (by simpa using hi) (by simpa using hj) h4 (by rw [List.getElem_map, List.getElem_map]; exact e.trans e2)
    · exact h3 (by simpa using hj) (by simpa using hi) h4 (by rw [List.getElem_map, List.getElem_map]; exact (e.trans e2).symm)
end
def topK (L : List Lf) (k : Nat) : Int := topG (gapSt L (k + 1)).pile
def arcK (L : List Lf) (k : Nat) : PT × PT := ((endsR L)[k]!, (endsR L)[(k + 1) % (endsR L).length]!)
theorem gapSt_form (L : List Lf) : ∀ k, (gapSt L k).keys = (repsG (topK L) k).map (topK L) ∧ (gapSt L k).out = grpG (topK L) (arcK L) k
  | 0 => ⟨rfl, rfl⟩
  | k + 1 => by
    obtain ⟨h1, h2⟩ := gapSt_form L k
    have ht : topG ((List.range' (gapSt L k).next (runG L (endsR L)[k]! (gapSt L k).next)) ++ popG L (endsR L)[k]! (gapSt L k).pile) = topK L k := by
      unfold topK
      rw [gapSt_succ]
      rfl
    have e1 : (gapSt L (k + 1)).keys = keysG (gapSt L k).keys (topK L k) := by
      rw [gapSt_succ, ← ht]
      rfl
    have e2 : (gapSt L (k + 1)).out = (outG (gapSt L k).keys (topK L k) (gapSt L k).out).modify (idxG (keysG (gapSt L k).keys (topK L k)) (topK L k)) (· ++ [arcK L k]) := by
      rw [gapSt_succ, ← ht]
      rfl
    rw [e1, e2, h1, h2]
    by_cases hm : topK L k ∈ (repsG (topK L) k).map (topK L)
    · have hlt := List.idxOf_lt_length_of_mem hm
      have hget : ((repsG (topK L) k).map (topK L))[((repsG (topK L) k).map (topK L)).idxOf (topK L k)] = topK L k := List.getElem_idxOf hlt
      have hlt2 := hlt
      rw [List.length_map] at hlt2
      rw [List.getElem_map] at hget
      unfold keysG outG idxG
      rw [if_pos hm, if_pos hm, repsG, if_pos hm]
      exact ⟨rfl, (grpG_old hlt2 hget).symm⟩
    · unfold keysG outG idxG
      rw [if_neg hm, if_neg hm, repsG, if_neg hm, List.map_append]
      refine ⟨rfl, ?_⟩
      rw [grpG_new hm]
      have hix : ((repsG (topK L) k).map (topK L) ++ [topK L k]).idxOf (topK L k) = (grpG (topK L) (arcK L) k).length := by
        rw [List.idxOf_append, if_neg hm, grpG_len]
        simp
      rw [hix, modify_end]
theorem gapsL_form {L : List Lf} (h : L ≠ []) : gapsL L = grpG (topK L) (arcK L) (endsR L).length := by
  unfold gapsL
  rw [if_neg h]
  exact (gapSt_form L _).2
def sideU (l : Lf) (f : PT) : Bool := withinP l f || decide (f = l.1)
theorem sideU_ky {l : Lf} {f : PT} (hl : Lfp l) (hf : Ang f) : sideU l f = true ↔ ky l.1 ≤ ky f ∧ ky f < ky l.2 := by
  have h := hl.ky
  unfold sideU withinP
  rw [Bool.or_eq_true, Bool.and_eq_true, decide_eq_true_eq, decide_eq_true_eq, decide_eq_true_eq, ky_lt hl.1.1 hf, ky_lt hf hl.1.2, ky_eq hf hl.1.1]
  omega
def sideB (L : List Lf) (f : PT) : List UInt8 := L.map fun l => if sideU l f then 1 else 0
theorem side_iff {L : List Lf} {f g : PT} (hL : LOk L) (hf : Ang f) (hg : Ang g) : sideB L f = sideB L g ↔ ∀ t, overG L f t ↔ overG L g t := by
  have key : ∀ (t : Nat), t < L.length → ∀ h, Ang h → (sideU L[t]! h = true ↔ overG L h t) := fun t ht h hh => by
    rw [sideU_ky (hL.get ht) hh]
    exact ⟨fun x => ⟨ht, x⟩, fun x => x.2⟩
  have hb : ∀ a b : Bool, ((if a then (1 : UInt8) else 0) = if b then 1 else 0) ↔ a = b := by decide
  constructor
  · intro e t
    have h0 : ∀ h, Ang h → ∀ (ht : t < L.length), (sideB L h)[t]'(by simpa [sideB] using ht) = if sideU L[t]! h then 1 else 0 := fun h _ ht => by
      simp only [sideB, List.getElem_map]
      rw [getElem!_pos L t ht]
    constructor
    · intro h
      have h1 := h0 f hf h.1
      have h2 := h0 g hg h.1
      simp only [e] at h1
      rw [h1, hb] at h2
      exact (key t h.1 g hg).1 (by rw [← h2]; exact (key t h.1 f hf).2 h)
    · intro h
      have h1 := h0 f hf h.1
      have h2 := h0 g hg h.1
      simp only [e] at h1
      rw [h1, hb] at h2
      exact (key t h.1 f hf).1 (by rw [h2]; exact (key t h.1 g hg).2 h)
  · intro h
    unfold sideB
    refine List.ext_getElem (by simp) fun t h1 h2 => ?_
    have ht : t < L.length := by simpa using h1
    rw [List.getElem_map, List.getElem_map, hb, ← getElem!_pos L t ht]
    have := h t
    rw [← key t ht f hf, ← key t ht g hg] at this
    exact Bool.eq_iff_iff.2 this
theorem top_side {L : List Lf} (hL : LOk L) {i j : Nat} (hi : i < (endsR L).length) (hj : j < (endsR L).length) : topK L i = topK L j ↔ sideB L (endsR L)[i]! = sideB L (endsR L)[j]! := by
  have ha : ∀ i, i < (endsR L).length → Ang (endsR L)[i]! := fun i hi => endsR_ang hL _ (by rw [getElem!_pos (endsR L) i hi]; exact List.getElem_mem hi)
  rw [side_iff hL (ha i hi) (ha j hj)]
  exact top_iff hL (gapSt_post hL i hi) (gapSt_post hL j hj)
theorem gapsL_side {L : List Lf} (hL : LOk L) (h : L ≠ []) : gapsL L = grpG (fun k => sideB L (endsR L)[k]!) (arcK L) (endsR L).length := by
  rw [gapsL_form h]
  exact grpG_congr fun i j hi hj => top_side hL hi hj
open Go.RowKit Go.Sort
open Go.RowKit Go.Sort
end Go.Proofs.YtoaggmegmgdgbaaGreat
