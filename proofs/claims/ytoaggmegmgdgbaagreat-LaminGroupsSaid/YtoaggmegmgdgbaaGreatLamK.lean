import Derived.Test.YtoaggmegmgdgbaaGreatLamH
import Derived.Deep.RegionHeld3
namespace Go.Proofs.YtoaggmegmgdgbaaGreat
open Go.RowKit Go.Sort
structure But (r : Nat → Prop) (A B : World) : Prop where
  os : B.os = A.os
  tape : B.tape = A.tape
  output : B.output = A.output
  size : A.heap.size ≤ B.heap.size
  block : ∀ k, k < A.heap.size → ¬ r k → B.heap[k]? = A.heap[k]?
section
variable {r r' : Nat → Prop} {A B C : World}
theorem But.refl (r : Nat → Prop) (A : World) : But r A A := ⟨rfl, rfl, rfl, Nat.le_refl _, fun _ _ _ => rfl⟩
theorem But.trans (h : But r A B) (k : But r B C) : But r A C :=
  ⟨k.os.trans h.os, k.tape.trans h.tape, k.output.trans h.output, Nat.le_trans h.size k.size, fun i hi hn => (k.block i (Nat.lt_of_lt_of_le hi h.size) hn).trans (h.block i hi hn)⟩
theorem But.wide (h : But r A B) (hr : ∀ k, k < A.heap.size → r k → r' k) : But r' A B := ⟨h.os, h.tape, h.output, h.size, fun k hk hn => h.block k hk (fun e => hn (hr k hk e))⟩
theorem But.of_below (h : Below A.heap.size A B) : But r A B := ⟨h.os, h.tape, h.output, h.size, fun k hk _ => h.block k hk⟩
theorem But.below (h : But r A B) (k : Below B.heap.size B C) : But r A C := h.trans (But.of_below k)
theorem But.alloc (h : But r A B) (o : Obj) : But r A (B.alloc o) := h.trans ⟨rfl, rfl, rfl, by simp, fun k hk _ => Below.heap_alloc B o k hk⟩
theorem But.setCell (h : But r A B) {p : Addr} (hp : r p.block ∨ A.heap.size ≤ p.block) (v : Value) : But r A (B.setCell p v) :=
  ⟨h.os, h.tape, h.output, by have := h.size; simpa [World.setCell] using this, fun k hk hn => (Below.heap_setCell B p v k (fun e => by
    rcases hp with hp | hp
    · exact hn (by rw [e]; exact hp)
    · omega)).trans (h.block k hk hn)⟩
theorem But.grown (h : But r A B) {row : Option Nat} (hg : B.grownBy C row) (hr : ∀ k, row = some k → r k) : But r A C :=
  h.trans ⟨hg.os, hg.tape, hg.output, hg.size, fun k hk hn => hg.block k hk (fun e => hn (hr k e.symm))⟩
theorem But.toBelow (h : But r A B) {n : Nat} (hn : n ≤ A.heap.size) (hr : ∀ k, k < n → ¬ r k) : Below n A B := ⟨h.os, h.tape, h.output, h.size, fun k hk => h.block k (by omega) (hr k hk)⟩
end
theorem LRow.set {w : World} {B x j : Nat} {v u : Value} {L : List Lf} {cs : Array Value} (h : LRow w B v L) (hx : Blk w x 103 cs) : LRow (w.setCell ⟨x, j, none⟩ u) B v L := by
  obtain ⟨hl, hc⟩ := h
  refine ⟨hl, ?_⟩
  rcases hc with hc | ⟨g, cap, cur, hv, hbase, hg, rest⟩
  · exact .inl hc
  · refine .inr ⟨g, cap, cur, hv, hbase, ?_, rest⟩
    rw [Below.heap_setCell w ⟨x, j, none⟩ u g (fun e => by
      subst e
      rw [show w.heap[g]? = _ from hx] at hg
      injection hg with hg
      injection hg with _ h2
      exact absurd h2 (by decide))]
    exact hg
def putL (L : List Lf) (l : Lf) (K : Nat) : List Lf := L.take K ++ [l] ++ L.drop K
def noCross (l : Lf) (L : List Lf) : Prop := ∀ t, t < L.length → partsP l L[t]!.1 L[t]!.2 = false
def InsLaw (B : Nat) (v : Value) (L : List Lf) (l : Lf) (K : Nat) : Prop := ∀ (vb : Nat) (W : World), LRow W B v L → Blk W vb 38 (leafE l).toArray → B ≤ W.heap.size →
    Calls Tryz.prog 94 #[v, .int .i64 (K : Int), .slice (some ⟨vb, 0, none⟩) 1 1] W fun e w' => ∃ v', e = .returned v' ∧ Hid (LRow w' B v' (putL L l K)) ∧ Hid (W.grownBy w' v.ownBlock)
theorem putL_end (L : List Lf) (l : Lf) : putL L l L.length = L ++ [l] := by simp [putL]
theorem InsLaw.end_ (B : Nat) (v : Value) (L : List Lf) (l : Lf) (h : L.length ≤ 1048576) : InsLaw B v L l L.length := fun vb W h1 h2 h3 => by
  rw [putL_end]
  exact lInsert_end B v L l vb W h1 h2 h3 h
theorem lchk_ok (l : Lf) (hl : AngL l) (hlt : cmpP l.1 l.2 < 0) (W : World) : Calls Tryz.prog 17 #[.agg #[.bool false, .string (natS l.1.1), .string (natS l.1.2), .bool false, .string (natS l.2.1), .string (natS l.2.2)]] W (RetVal (.int .i64 0) W) := by
  have h := lCheck_any false (natS l.1.1) (natS l.1.2) false (natS l.2.1) (natS l.2.2) W (okA_size hl.1.ok).1 (okA_size hl.1.ok).2 (okA_size hl.2.ok).1 (okA_size hl.2.ok).2
  rw [chkLf_leaf l hl, if_neg (by omega), if_neg (by omega)] at h
  exact h
set_option maxRecDepth 100000 in
set_option maxHeartbeats 4000000 in
theorem lAdd_cross (B x Kp : Nat) (v : Value) (L : List Lf) (l : Lf) (w : World) (hL : Lam w B x v L) (hl : AngL l) (hlt : cmpP l.1 l.2 < 0) (hM : ∀ m, m ∈ L → AngL m) (hP : Plc L l Kp) (hlen : L.length ≤ 4096) (hcr : ¬ noCross l L) :
    Calls Tryz.prog 45 #[.pointer (some ⟨x, 0, none⟩), .agg #[.bool false, .string (natS l.1.1), .string (natS l.1.2), .bool false, .string (natS l.2.1), .string (natS l.2.2)]] w (RetVal (.int .i64 231) w) := by
  obtain ⟨A, c, rfl, hA⟩ := LRow.form hL.row
  have hN : Hid (∀ W, Blk W x 103 #[.bool true, .slice A L.length c] → Calls Tryz.prog 76 #[.pointer (some ⟨x, 0, none⟩)] W (RetVal (.bool false) W)) := Lib.hid (fun W h => lnone_any x true _ W h)
  have hCk := Lib.hid (fun W => lchk_ok l hl hlt W)
  have hX : Hid (∀ (t : Nat) (m : Lf) (b : Bool), t < L.length → m = L[t]! → b = partsP l m.1 m.2 → ∀ W, Calls Tryz.prog 66 #[.agg #[.bool false, .string (natS l.1.1), .string (natS l.1.2), .bool false, .string (natS l.2.1), .string (natS l.2.2)], .agg #[.bool false, .string (natS m.1.1), .string (natS m.1.2), .bool false, .string (natS m.2.1), .string (natS m.2.2)]] W (RetVal (.bool b) W)) := Lib.hid (fun t m b ht hm hb W => by
    subst hm hb
    exact lcrosses_any l _ W hl (hM _ (by rw [getElem!_pos L t ht]; exact List.getElem_mem ht)))
  have hLm := Lib.hid hL
  obtain ⟨n, hn⟩ : ∃ n, n = L.length := ⟨_, rfl⟩
  have hKn : Kp ≤ n := by rw [hn]; exact hP.le
  have hn4 : n ≤ 1048576 := by omega
  have hCR := Lib.hid hcr
  clear hcr
  have hBW : Below w.heap.size w (w.alloc (.cells #[.bool false, .string (natS l.1.1), .string (natS l.1.2), .bool false, .string (natS l.2.1), .string (natS l.2.2)] 38)) := ((Below.refl _ w).alloc (Nat.le_refl _) _)
  have kk0 := (Blk.new w 38 #[.bool false, .string (natS l.1.1), .string (natS l.1.2), .bool false, .string (natS l.2.1), .string (natS l.2.2)])
  have K := Lib.hid (KeepT.one kk0)
  have hB := Lib.hid hBW
  clear hBW kk0
  replace hLm := Lib.hid (hLm.out.alloc (.cells #[.bool false, .string (natS l.1.1), .string (natS l.1.2), .bool false, .string (natS l.2.1), .string (natS l.2.2)] 38))
  go_enter Tryz.func45, Tryz.ntmps45
  go_upto_region 1 with fail
  generalize hW : (w.alloc (.cells #[.bool false, .string (natS l.1.1), .string (natS l.1.2), .bool false, .string (natS l.2.1), .string (natS l.2.2)] 38)) = w1 at hB K hLm ⊢
  clear hW hL hl hlt hM hP
  skip
  replace hn := Lib.hid hn
  go_wp2_with fail
  refine (hN.out _ hLm.out.blk).mono ?_
  rintro en w2 ⟨rfl, hb⟩
  replace hB := Lib.hid (hB.out.trans (hb.mono hB.out.size))
  replace K := Lib.hid ((K.out.below hb))
  replace hLm := Lib.hid ((hLm.out.below hb))
  clear  hb hN
  have ll0 : w2.cell? ⟨w.heap.size, 0, none⟩ = some (.bool false) := (K.out.at_ 0 rfl).cell 0
  have ll1 : w2.cell? ⟨w.heap.size, 1, none⟩ = some (.string (natS l.1.1)) := (K.out.at_ 0 rfl).cell 1
  have ll2 : w2.cell? ⟨w.heap.size, 2, none⟩ = some (.string (natS l.1.2)) := (K.out.at_ 0 rfl).cell 2
  have ll3 : w2.cell? ⟨w.heap.size, 3, none⟩ = some (.bool false) := (K.out.at_ 0 rfl).cell 3
  have ll4 : w2.cell? ⟨w.heap.size, 4, none⟩ = some (.string (natS l.2.1)) := (K.out.at_ 0 rfl).cell 4
  have ll5 : w2.cell? ⟨w.heap.size, 5, none⟩ = some (.string (natS l.2.2)) := (K.out.at_ 0 rfl).cell 5
  go_wp2_with fail
  refine (hCk.out _).mono ?_
  rintro en w3 ⟨rfl, hb⟩
  replace hB := Lib.hid (hB.out.trans (hb.mono hB.out.size))
  replace K := Lib.hid ((K.out.below hb))
  replace hLm := Lib.hid ((hLm.out.below hb))
  clear ll0 ll1 ll2 ll3 ll4 ll5 hb hCk
  have y1 : w3.cell? ⟨x, 1, none⟩ = some (.slice A n c) := by rw [hn.out]; exact hLm.out.blk.cell 1
  go_wp2
  clear y1
  go_loopg [22] n (fun kx s22 wr => ∃ i : Nat, s22 = .int .i64 (i : Int) ∧ i ≤ n ∧ n - i ≤ kx ∧ Hid (∀ t, t < i → partsP l L[t]!.1 L[t]!.2 = false) ∧ Hid (Below w3.heap.size w3 wr))
  case atStart => exact ⟨0, rfl, Nat.zero_le _, Nat.le_refl _, Lib.hid (fun t ht => absurd ht (Nat.not_lt_zero _)), Lib.hid (Below.refl _ _)⟩
  case round =>
    obtain ⟨i, rfl, hin, hg, I, hb⟩ := hrel
    by_cases hlt : i < n
    case pos =>
      have hil : i < L.length := by rw [← hn.out]; exact hlt
      obtain ⟨g, rfl⟩ := hA (by omega)
      clear hA
      obtain ⟨m, hm⟩ : ∃ m, m = L[i]! := ⟨_, rfl⟩
      obtain ⟨b, hbm⟩ : ∃ b, b = partsP l m.1 m.2 := ⟨_, rfl⟩
      have hXi := Lib.hid (hX.out i m b hil hm hbm)
      have hC := LRow.cell (hLm.out.below hb.out).row hil
      rw [← hm] at hC
      have m0 : wr.cell? ⟨g, i * 6, none⟩ = some (.bool false) := hC 0 _ rfl
      have m1 : wr.cell? ⟨g, i * 6 + 1, none⟩ = some (.string (natS m.1.1)) := hC 1 _ rfl
      have m2 : wr.cell? ⟨g, i * 6 + 2, none⟩ = some (.string (natS m.1.2)) := hC 2 _ rfl
      have m3 : wr.cell? ⟨g, i * 6 + 3, none⟩ = some (.bool false) := hC 3 _ rfl
      have m4 : wr.cell? ⟨g, i * 6 + 4, none⟩ = some (.string (natS m.2.1)) := hC 4 _ rfl
      have m5 : wr.cell? ⟨g, i * 6 + 5, none⟩ = some (.string (natS m.2.2)) := hC 5 _ rfl
      clear hC hil
      have hiz : (i : Int) < (n : Int) := by omega
      have hb2 := Lib.hid (hb.out.alloc hb.out.size (.cells #[.bool false, .string (natS m.1.1), .string (natS m.1.2), .bool false, .string (natS m.2.1), .string (natS m.2.2)] 38))
      have KW := Lib.hid (((K.out.below hb.out).alloc (.cells #[.bool false, .string (natS m.1.1), .string (natS m.1.2), .bool false, .string (natS m.2.1), .string (natS m.2.2)] 38)).snoc (Blk.new wr 38 #[.bool false, .string (natS m.1.1), .string (natS m.1.2), .bool false, .string (natS m.2.1), .string (natS m.2.2)]))
      replace I := Lib.hid I
      replace hm := Lib.hid hm
      replace hbm := Lib.hid hbm
      go_upto_region 9 with fail
      generalize hW : wr.alloc (.cells #[.bool false, .string (natS m.1.1), .string (natS m.1.2), .bool false, .string (natS m.2.1), .string (natS m.2.2)] 38) = wa at hb2 KW ⊢
      generalize hgg : wr.heap.size = ga at KW ⊢
      clear hW hgg m0 m1 m2 m3 m4 m5 hiz hb
      have ll0 : wa.cell? ⟨w.heap.size, 0, none⟩ = some (.bool false) := (KW.out.at_ 0 rfl).cell 0
      have ll1 : wa.cell? ⟨w.heap.size, 1, none⟩ = some (.string (natS l.1.1)) := (KW.out.at_ 0 rfl).cell 1
      have ll2 : wa.cell? ⟨w.heap.size, 2, none⟩ = some (.string (natS l.1.2)) := (KW.out.at_ 0 rfl).cell 2
      have ll3 : wa.cell? ⟨w.heap.size, 3, none⟩ = some (.bool false) := (KW.out.at_ 0 rfl).cell 3
      have ll4 : wa.cell? ⟨w.heap.size, 4, none⟩ = some (.string (natS l.2.1)) := (KW.out.at_ 0 rfl).cell 4
      have ll5 : wa.cell? ⟨w.heap.size, 5, none⟩ = some (.string (natS l.2.2)) := (KW.out.at_ 0 rfl).cell 5
      have mm0 : wa.cell? ⟨ga, 0, none⟩ = some (.bool false) := (KW.out.at_ 1 rfl).cell 0
      have mm1 : wa.cell? ⟨ga, 1, none⟩ = some (.string (natS m.1.1)) := (KW.out.at_ 1 rfl).cell 1
      have mm2 : wa.cell? ⟨ga, 2, none⟩ = some (.string (natS m.1.2)) := (KW.out.at_ 1 rfl).cell 2
      have mm3 : wa.cell? ⟨ga, 3, none⟩ = some (.bool false) := (KW.out.at_ 1 rfl).cell 3
      have mm4 : wa.cell? ⟨ga, 4, none⟩ = some (.string (natS m.2.1)) := (KW.out.at_ 1 rfl).cell 4
      have mm5 : wa.cell? ⟨ga, 5, none⟩ = some (.string (natS m.2.2)) := (KW.out.at_ 1 rfl).cell 5
      cases b
      case true =>
        go_wp2_with fail
        refine (hXi.out _).mono ?_
        rintro en wc ⟨rfl, hb⟩
        have hZ := Lib.hid (hB.out.trans ((hb2.out.trans (hb.mono hb2.out.size)).mono hB.out.size))
        clear hb hXi KW K hLm hX hb2
        clear ll0 ll1 ll2 ll3 ll4 ll5 mm0 mm1 mm2 mm3 mm4 mm5
        go_wp2_with fail
        go_ret
        exact ⟨rfl, hZ.out⟩
      case false =>
        go_wp2_with (go_at_call 66; refine (hXi.out _).mono ?_; rintro en wc ⟨rfl, hb⟩; replace hb2 := Lib.hid (hb2.out.trans (hb.mono hb2.out.size)); clear hb)
        go_roundg (n - (i + 1))
        case measure => omega
        case rel =>
          exact ⟨i + 1, by go_num, by omega, Nat.le_refl _, Lib.hid (fun t ht => by
            rcases Nat.lt_or_ge t i with h | h
            · exact I.out t h
            · obtain rfl : t = i := by omega
              rw [← hm.out, ← hbm.out]), hb2⟩
    case neg =>
      obtain rfl : i = n := by omega
      exact absurd hCR.out (by
        rintro h
        exact h (fun t ht => I.out t (by rw [hn.out]; exact ht)))
set_option maxRecDepth 100000 in
set_option maxHeartbeats 4000000 in
theorem lAdd_has (B x Kp : Nat) (v : Value) (L : List Lf) (l : Lf) (w : World) (hL : Lam w B x v L) (hl : AngL l) (hlt : cmpP l.1 l.2 < 0) (hM : ∀ m, m ∈ L → AngL m) (hP : Plc L l Kp) (hlen : L.length ≤ 4096) (hcr : noCross l L) (hhas : Kp < L.length ∧ L[Kp]! = l) :
    Calls Tryz.prog 45 #[.pointer (some ⟨x, 0, none⟩), .agg #[.bool false, .string (natS l.1.1), .string (natS l.1.2), .bool false, .string (natS l.2.1), .string (natS l.2.2)]] w (RetVal (.int .i64 0) w) := by
  obtain ⟨A, c, rfl, hA⟩ := LRow.form hL.row
  have hN : Hid (∀ W, Blk W x 103 #[.bool true, .slice A L.length c] → Calls Tryz.prog 76 #[.pointer (some ⟨x, 0, none⟩)] W (RetVal (.bool false) W)) := Lib.hid (fun W h => lnone_any x true _ W h)
  have hCk := Lib.hid (fun W => lchk_ok l hl hlt W)
  have hX : Hid (∀ (t : Nat) (m : Lf) (b : Bool), t < L.length → m = L[t]! → b = partsP l m.1 m.2 → ∀ W, Calls Tryz.prog 66 #[.agg #[.bool false, .string (natS l.1.1), .string (natS l.1.2), .bool false, .string (natS l.2.1), .string (natS l.2.2)], .agg #[.bool false, .string (natS m.1.1), .string (natS m.1.2), .bool false, .string (natS m.2.1), .string (natS m.2.2)]] W (RetVal (.bool b) W)) := Lib.hid (fun t m b ht hm hb W => by
    subst hm hb
    exact lcrosses_any l _ W hl (hM _ (by rw [getElem!_pos L t ht]; exact List.getElem_mem ht)))
  have hLm := Lib.hid hL
  obtain ⟨n, hn⟩ : ∃ n, n = L.length := ⟨_, rfl⟩
  have hKn : Kp ≤ n := by rw [hn]; exact hP.le
  have hn4 : n ≤ 1048576 := by omega
  obtain ⟨hs, hhs⟩ : ∃ b, b = decide (Kp < L.length ∧ L[Kp]! = l) := ⟨_, rfl⟩
  have hPl : Hid (∀ W, Lam W B x (.slice A L.length c) L → Calls Tryz.prog 92 #[.pointer (some ⟨x, 0, none⟩), .agg #[.bool false, .string (natS l.1.1), .string (natS l.1.2), .bool false, .string (natS l.2.1), .string (natS l.2.2)]] W (RetVal (.tuple #[.int .i64 (Kp : Int), .bool hs]) W)) := Lib.hid (fun W h => by rw [hhs]; exact lplace_any B x Kp _ L l W h hl hM hP (by omega))
  obtain rfl : hs = true := by rw [hhs]; exact decide_eq_true hhas
  clear hhs hhas
  have hNC := Lib.hid hcr
  clear hcr
  have hBW : Below w.heap.size w (w.alloc (.cells #[.bool false, .string (natS l.1.1), .string (natS l.1.2), .bool false, .string (natS l.2.1), .string (natS l.2.2)] 38)) := ((Below.refl _ w).alloc (Nat.le_refl _) _)
  have kk0 := (Blk.new w 38 #[.bool false, .string (natS l.1.1), .string (natS l.1.2), .bool false, .string (natS l.2.1), .string (natS l.2.2)])
  have K := Lib.hid (KeepT.one kk0)
  have hB := Lib.hid hBW
  clear hBW kk0
  replace hLm := Lib.hid (hLm.out.alloc (.cells #[.bool false, .string (natS l.1.1), .string (natS l.1.2), .bool false, .string (natS l.2.1), .string (natS l.2.2)] 38))
  go_enter Tryz.func45, Tryz.ntmps45
  go_upto_region 1 with fail
  generalize hW : (w.alloc (.cells #[.bool false, .string (natS l.1.1), .string (natS l.1.2), .bool false, .string (natS l.2.1), .string (natS l.2.2)] 38)) = w1 at hB K hLm ⊢
  clear hW hL hl hlt hM hP
  skip
  replace hn := Lib.hid hn
  go_wp2_with fail
  refine (hN.out _ hLm.out.blk).mono ?_
  rintro en w2 ⟨rfl, hb⟩
  replace hB := Lib.hid (hB.out.trans (hb.mono hB.out.size))
  replace K := Lib.hid ((K.out.below hb))
  replace hLm := Lib.hid ((hLm.out.below hb))
  clear  hb hN
  have ll0 : w2.cell? ⟨w.heap.size, 0, none⟩ = some (.bool false) := (K.out.at_ 0 rfl).cell 0
  have ll1 : w2.cell? ⟨w.heap.size, 1, none⟩ = some (.string (natS l.1.1)) := (K.out.at_ 0 rfl).cell 1
  have ll2 : w2.cell? ⟨w.heap.size, 2, none⟩ = some (.string (natS l.1.2)) := (K.out.at_ 0 rfl).cell 2
  have ll3 : w2.cell? ⟨w.heap.size, 3, none⟩ = some (.bool false) := (K.out.at_ 0 rfl).cell 3
  have ll4 : w2.cell? ⟨w.heap.size, 4, none⟩ = some (.string (natS l.2.1)) := (K.out.at_ 0 rfl).cell 4
  have ll5 : w2.cell? ⟨w.heap.size, 5, none⟩ = some (.string (natS l.2.2)) := (K.out.at_ 0 rfl).cell 5
  go_wp2_with fail
  refine (hCk.out _).mono ?_
  rintro en w3 ⟨rfl, hb⟩
  replace hB := Lib.hid (hB.out.trans (hb.mono hB.out.size))
  replace K := Lib.hid ((K.out.below hb))
  replace hLm := Lib.hid ((hLm.out.below hb))
  clear ll0 ll1 ll2 ll3 ll4 ll5 hb hCk
  have y1 : w3.cell? ⟨x, 1, none⟩ = some (.slice A n c) := by rw [hn.out]; exact hLm.out.blk.cell 1
  go_wp2
  clear y1
  go_loopg [22] n (fun kx s22 wr => ∃ i : Nat, s22 = .int .i64 (i : Int) ∧ i ≤ n ∧ n - i ≤ kx ∧ Hid (∀ t, t < i → partsP l L[t]!.1 L[t]!.2 = false) ∧ Hid (Below w3.heap.size w3 wr))
  case atStart => exact ⟨0, rfl, Nat.zero_le _, Nat.le_refl _, Lib.hid (fun t ht => absurd ht (Nat.not_lt_zero _)), Lib.hid (Below.refl _ _)⟩
  case round =>
    obtain ⟨i, rfl, hin, hg, I, hb⟩ := hrel
    by_cases hlt : i < n
    case pos =>
      have hil : i < L.length := by rw [← hn.out]; exact hlt
      obtain ⟨g, rfl⟩ := hA (by omega)
      clear hA
      obtain ⟨m, hm⟩ : ∃ m, m = L[i]! := ⟨_, rfl⟩
      obtain ⟨b, hbm⟩ : ∃ b, b = partsP l m.1 m.2 := ⟨_, rfl⟩
      have hXi := Lib.hid (hX.out i m b hil hm hbm)
      have hC := LRow.cell (hLm.out.below hb.out).row hil
      rw [← hm] at hC
      have m0 : wr.cell? ⟨g, i * 6, none⟩ = some (.bool false) := hC 0 _ rfl
      have m1 : wr.cell? ⟨g, i * 6 + 1, none⟩ = some (.string (natS m.1.1)) := hC 1 _ rfl
      have m2 : wr.cell? ⟨g, i * 6 + 2, none⟩ = some (.string (natS m.1.2)) := hC 2 _ rfl
      have m3 : wr.cell? ⟨g, i * 6 + 3, none⟩ = some (.bool false) := hC 3 _ rfl
      have m4 : wr.cell? ⟨g, i * 6 + 4, none⟩ = some (.string (natS m.2.1)) := hC 4 _ rfl
      have m5 : wr.cell? ⟨g, i * 6 + 5, none⟩ = some (.string (natS m.2.2)) := hC 5 _ rfl
      clear hC hil
      have hiz : (i : Int) < (n : Int) := by omega
      have hb2 := Lib.hid (hb.out.alloc hb.out.size (.cells #[.bool false, .string (natS m.1.1), .string (natS m.1.2), .bool false, .string (natS m.2.1), .string (natS m.2.2)] 38))
      have KW := Lib.hid (((K.out.below hb.out).alloc (.cells #[.bool false, .string (natS m.1.1), .string (natS m.1.2), .bool false, .string (natS m.2.1), .string (natS m.2.2)] 38)).snoc (Blk.new wr 38 #[.bool false, .string (natS m.1.1), .string (natS m.1.2), .bool false, .string (natS m.2.1), .string (natS m.2.2)]))
      replace I := Lib.hid I
      replace hm := Lib.hid hm
      replace hbm := Lib.hid hbm
      go_upto_region 9 with fail
      generalize hW : wr.alloc (.cells #[.bool false, .string (natS m.1.1), .string (natS m.1.2), .bool false, .string (natS m.2.1), .string (natS m.2.2)] 38) = wa at hb2 KW ⊢
      generalize hgg : wr.heap.size = ga at KW ⊢
      clear hW hgg m0 m1 m2 m3 m4 m5 hiz hb
      have ll0 : wa.cell? ⟨w.heap.size, 0, none⟩ = some (.bool false) := (KW.out.at_ 0 rfl).cell 0
      have ll1 : wa.cell? ⟨w.heap.size, 1, none⟩ = some (.string (natS l.1.1)) := (KW.out.at_ 0 rfl).cell 1
      have ll2 : wa.cell? ⟨w.heap.size, 2, none⟩ = some (.string (natS l.1.2)) := (KW.out.at_ 0 rfl).cell 2
      have ll3 : wa.cell? ⟨w.heap.size, 3, none⟩ = some (.bool false) := (KW.out.at_ 0 rfl).cell 3
      have ll4 : wa.cell? ⟨w.heap.size, 4, none⟩ = some (.string (natS l.2.1)) := (KW.out.at_ 0 rfl).cell 4
      have ll5 : wa.cell? ⟨w.heap.size, 5, none⟩ = some (.string (natS l.2.2)) := (KW.out.at_ 0 rfl).cell 5
      have mm0 : wa.cell? ⟨ga, 0, none⟩ = some (.bool false) := (KW.out.at_ 1 rfl).cell 0
      have mm1 : wa.cell? ⟨ga, 1, none⟩ = some (.string (natS m.1.1)) := (KW.out.at_ 1 rfl).cell 1
      have mm2 : wa.cell? ⟨ga, 2, none⟩ = some (.string (natS m.1.2)) := (KW.out.at_ 1 rfl).cell 2
      have mm3 : wa.cell? ⟨ga, 3, none⟩ = some (.bool false) := (KW.out.at_ 1 rfl).cell 3
      have mm4 : wa.cell? ⟨ga, 4, none⟩ = some (.string (natS m.2.1)) := (KW.out.at_ 1 rfl).cell 4
      have mm5 : wa.cell? ⟨ga, 5, none⟩ = some (.string (natS m.2.2)) := (KW.out.at_ 1 rfl).cell 5
      cases b
      case true =>
        exact absurd (hNC.out i (by rw [← hn.out]; exact hlt)) (by rw [← hm.out, ← hbm.out]; decide)
      case false =>
        go_wp2_with (go_at_call 66; refine (hXi.out _).mono ?_; rintro en wc ⟨rfl, hb⟩; replace hb2 := Lib.hid (hb2.out.trans (hb.mono hb2.out.size)); clear hb)
        go_roundg (n - (i + 1))
        case measure => omega
        case rel =>
          exact ⟨i + 1, by go_num, by omega, Nat.le_refl _, Lib.hid (fun t ht => by
            rcases Nat.lt_or_ge t i with h | h
            · exact I.out t h
            · obtain rfl : t = i := by omega
              rw [← hm.out, ← hbm.out]), hb2⟩
    case neg =>
      obtain rfl : i = n := by omega
      replace hB := Lib.hid (hB.out.trans (hb.out.mono hB.out.size))
      replace K := Lib.hid (K.out.below hb.out)
      replace hLm := Lib.hid (hLm.out.below hb.out)
      clear hb hA hX I hg
      have ll0 : wr.cell? ⟨w.heap.size, 0, none⟩ = some (.bool false) := (K.out.at_ 0 rfl).cell 0
      have ll1 : wr.cell? ⟨w.heap.size, 1, none⟩ = some (.string (natS l.1.1)) := (K.out.at_ 0 rfl).cell 1
      have ll2 : wr.cell? ⟨w.heap.size, 2, none⟩ = some (.string (natS l.1.2)) := (K.out.at_ 0 rfl).cell 2
      have ll3 : wr.cell? ⟨w.heap.size, 3, none⟩ = some (.bool false) := (K.out.at_ 0 rfl).cell 3
      have ll4 : wr.cell? ⟨w.heap.size, 4, none⟩ = some (.string (natS l.2.1)) := (K.out.at_ 0 rfl).cell 4
      have ll5 : wr.cell? ⟨w.heap.size, 5, none⟩ = some (.string (natS l.2.2)) := (K.out.at_ 0 rfl).cell 5
      go_wp2_with fail
      refine (hPl.out _ hLm.out).mono ?_
      rintro en w4 ⟨rfl, hb⟩
      replace hB := Lib.hid (hB.out.trans (hb.mono hB.out.size))
      replace K := Lib.hid ((K.out.below hb))
      replace hLm := Lib.hid ((hLm.out.below hb))
      clear ll0 ll1 ll2 ll3 ll4 ll5 hb hPl
      clear K hLm
      go_wp2_with fail
      go_ret
      exact ⟨rfl, hB.out⟩
set_option maxRecDepth 100000 in
set_option maxHeartbeats 4000000 in
theorem lAdd_long (B x Kp : Nat) (v : Value) (L : List Lf) (l : Lf) (w : World) (hL : Lam w B x v L) (hl : AngL l) (hlt : cmpP l.1 l.2 < 0) (hM : ∀ m, m ∈ L → AngL m) (hP : Plc L l Kp) (hlen : L.length ≤ 4096) (hcr : noCross l L) (hhas : ¬ (Kp < L.length ∧ L[Kp]! = l)) (hlong : 4096 ≤ L.length) :
    Calls Tryz.prog 45 #[.pointer (some ⟨x, 0, none⟩), .agg #[.bool false, .string (natS l.1.1), .string (natS l.1.2), .bool false, .string (natS l.2.1), .string (natS l.2.2)]] w (RetVal (.int .i64 4) w) := by
  obtain ⟨A, c, rfl, hA⟩ := LRow.form hL.row
  have hN : Hid (∀ W, Blk W x 103 #[.bool true, .slice A L.length c] → Calls Tryz.prog 76 #[.pointer (some ⟨x, 0, none⟩)] W (RetVal (.bool false) W)) := Lib.hid (fun W h => lnone_any x true _ W h)
  have hCk := Lib.hid (fun W => lchk_ok l hl hlt W)
  have hX : Hid (∀ (t : Nat) (m : Lf) (b : Bool), t < L.length → m = L[t]! → b = partsP l m.1 m.2 → ∀ W, Calls Tryz.prog 66 #[.agg #[.bool false, .string (natS l.1.1), .string (natS l.1.2), .bool false, .string (natS l.2.1), .string (natS l.2.2)], .agg #[.bool false, .string (natS m.1.1), .string (natS m.1.2), .bool false, .string (natS m.2.1), .string (natS m.2.2)]] W (RetVal (.bool b) W)) := Lib.hid (fun t m b ht hm hb W => by
    subst hm hb
    exact lcrosses_any l _ W hl (hM _ (by rw [getElem!_pos L t ht]; exact List.getElem_mem ht)))
  have hLm := Lib.hid hL
  obtain ⟨n, hn⟩ : ∃ n, n = L.length := ⟨_, rfl⟩
  have hKn : Kp ≤ n := by rw [hn]; exact hP.le
  have hn4 : n ≤ 1048576 := by omega
  obtain ⟨hs, hhs⟩ : ∃ b, b = decide (Kp < L.length ∧ L[Kp]! = l) := ⟨_, rfl⟩
  have hPl : Hid (∀ W, Lam W B x (.slice A L.length c) L → Calls Tryz.prog 92 #[.pointer (some ⟨x, 0, none⟩), .agg #[.bool false, .string (natS l.1.1), .string (natS l.1.2), .bool false, .string (natS l.2.1), .string (natS l.2.2)]] W (RetVal (.tuple #[.int .i64 (Kp : Int), .bool hs]) W)) := Lib.hid (fun W h => by rw [hhs]; exact lplace_any B x Kp _ L l W h hl hM hP (by omega))
  obtain rfl : hs = false := by rw [hhs]; exact decide_eq_false hhas
  clear hhs hhas
  have hNC := Lib.hid hcr
  clear hcr
  have hBW : Below w.heap.size w (w.alloc (.cells #[.bool false, .string (natS l.1.1), .string (natS l.1.2), .bool false, .string (natS l.2.1), .string (natS l.2.2)] 38)) := ((Below.refl _ w).alloc (Nat.le_refl _) _)
  have kk0 := (Blk.new w 38 #[.bool false, .string (natS l.1.1), .string (natS l.1.2), .bool false, .string (natS l.2.1), .string (natS l.2.2)])
  have K := Lib.hid (KeepT.one kk0)
  have hB := Lib.hid hBW
  clear hBW kk0
  replace hLm := Lib.hid (hLm.out.alloc (.cells #[.bool false, .string (natS l.1.1), .string (natS l.1.2), .bool false, .string (natS l.2.1), .string (natS l.2.2)] 38))
  go_enter Tryz.func45, Tryz.ntmps45
  go_upto_region 1 with fail
  generalize hW : (w.alloc (.cells #[.bool false, .string (natS l.1.1), .string (natS l.1.2), .bool false, .string (natS l.2.1), .string (natS l.2.2)] 38)) = w1 at hB K hLm ⊢
  clear hW hL hl hlt hM hP
  skip
  replace hn := Lib.hid hn
  go_wp2_with fail
  refine (hN.out _ hLm.out.blk).mono ?_
  rintro en w2 ⟨rfl, hb⟩
  replace hB := Lib.hid (hB.out.trans (hb.mono hB.out.size))
  replace K := Lib.hid ((K.out.below hb))
  replace hLm := Lib.hid ((hLm.out.below hb))
  clear  hb hN
  have ll0 : w2.cell? ⟨w.heap.size, 0, none⟩ = some (.bool false) := (K.out.at_ 0 rfl).cell 0
  have ll1 : w2.cell? ⟨w.heap.size, 1, none⟩ = some (.string (natS l.1.1)) := (K.out.at_ 0 rfl).cell 1
  have ll2 : w2.cell? ⟨w.heap.size, 2, none⟩ = some (.string (natS l.1.2)) := (K.out.at_ 0 rfl).cell 2
  have ll3 : w2.cell? ⟨w.heap.size, 3, none⟩ = some (.bool false) := (K.out.at_ 0 rfl).cell 3
  have ll4 : w2.cell? ⟨w.heap.size, 4, none⟩ = some (.string (natS l.2.1)) := (K.out.at_ 0 rfl).cell 4
  have ll5 : w2.cell? ⟨w.heap.size, 5, none⟩ = some (.string (natS l.2.2)) := (K.out.at_ 0 rfl).cell 5
  go_wp2_with fail
  refine (hCk.out _).mono ?_
  rintro en w3 ⟨rfl, hb⟩
  replace hB := Lib.hid (hB.out.trans (hb.mono hB.out.size))
  replace K := Lib.hid ((K.out.below hb))
  replace hLm := Lib.hid ((hLm.out.below hb))
  clear ll0 ll1 ll2 ll3 ll4 ll5 hb hCk
  have y1 : w3.cell? ⟨x, 1, none⟩ = some (.slice A n c) := by rw [hn.out]; exact hLm.out.blk.cell 1
  go_wp2
  clear y1
  go_loopg [22] n (fun kx s22 wr => ∃ i : Nat, s22 = .int .i64 (i : Int) ∧ i ≤ n ∧ n - i ≤ kx ∧ Hid (∀ t, t < i → partsP l L[t]!.1 L[t]!.2 = false) ∧ Hid (Below w3.heap.size w3 wr))
  case atStart => exact ⟨0, rfl, Nat.zero_le _, Nat.le_refl _, Lib.hid (fun t ht => absurd ht (Nat.not_lt_zero _)), Lib.hid (Below.refl _ _)⟩
  case round =>
    obtain ⟨i, rfl, hin, hg, I, hb⟩ := hrel
    by_cases hlt : i < n
    case pos =>
      have hil : i < L.length := by rw [← hn.out]; exact hlt
      obtain ⟨g, rfl⟩ := hA (by omega)
      clear hA
      obtain ⟨m, hm⟩ : ∃ m, m = L[i]! := ⟨_, rfl⟩
      obtain ⟨b, hbm⟩ : ∃ b, b = partsP l m.1 m.2 := ⟨_, rfl⟩
      have hXi := Lib.hid (hX.out i m b hil hm hbm)
      have hC := LRow.cell (hLm.out.below hb.out).row hil
      rw [← hm] at hC
      have m0 : wr.cell? ⟨g, i * 6, none⟩ = some (.bool false) := hC 0 _ rfl
      have m1 : wr.cell? ⟨g, i * 6 + 1, none⟩ = some (.string (natS m.1.1)) := hC 1 _ rfl
      have m2 : wr.cell? ⟨g, i * 6 + 2, none⟩ = some (.string (natS m.1.2)) := hC 2 _ rfl
      have m3 : wr.cell? ⟨g, i * 6 + 3, none⟩ = some (.bool false) := hC 3 _ rfl
      have m4 : wr.cell? ⟨g, i * 6 + 4, none⟩ = some (.string (natS m.2.1)) := hC 4 _ rfl
      have m5 : wr.cell? ⟨g, i * 6 + 5, none⟩ = some (.string (natS m.2.2)) := hC 5 _ rfl
      clear hC hil
      have hiz : (i : Int) < (n : Int) := by omega
      have hb2 := Lib.hid (hb.out.alloc hb.out.size (.cells #[.bool false, .string (natS m.1.1), .string (natS m.1.2), .bool false, .string (natS m.2.1), .string (natS m.2.2)] 38))
      have KW := Lib.hid (((K.out.below hb.out).alloc (.cells #[.bool false, .string (natS m.1.1), .string (natS m.1.2), .bool false, .string (natS m.2.1), .string (natS m.2.2)] 38)).snoc (Blk.new wr 38 #[.bool false, .string (natS m.1.1), .string (natS m.1.2), .bool false, .string (natS m.2.1), .string (natS m.2.2)]))
      replace I := Lib.hid I
      replace hm := Lib.hid hm
      replace hbm := Lib.hid hbm
      go_upto_region 9 with fail
      generalize hW : wr.alloc (.cells #[.bool false, .string (natS m.1.1), .string (natS m.1.2), .bool false, .string (natS m.2.1), .string (natS m.2.2)] 38) = wa at hb2 KW ⊢
      generalize hgg : wr.heap.size = ga at KW ⊢
      clear hW hgg m0 m1 m2 m3 m4 m5 hiz hb
      have ll0 : wa.cell? ⟨w.heap.size, 0, none⟩ = some (.bool false) := (KW.out.at_ 0 rfl).cell 0
      have ll1 : wa.cell? ⟨w.heap.size, 1, none⟩ = some (.string (natS l.1.1)) := (KW.out.at_ 0 rfl).cell 1
      have ll2 : wa.cell? ⟨w.heap.size, 2, none⟩ = some (.string (natS l.1.2)) := (KW.out.at_ 0 rfl).cell 2
      have ll3 : wa.cell? ⟨w.heap.size, 3, none⟩ = some (.bool false) := (KW.out.at_ 0 rfl).cell 3
      have ll4 : wa.cell? ⟨w.heap.size, 4, none⟩ = some (.string (natS l.2.1)) := (KW.out.at_ 0 rfl).cell 4
      have ll5 : wa.cell? ⟨w.heap.size, 5, none⟩ = some (.string (natS l.2.2)) := (KW.out.at_ 0 rfl).cell 5
      have mm0 : wa.cell? ⟨ga, 0, none⟩ = some (.bool false) := (KW.out.at_ 1 rfl).cell 0
      have mm1 : wa.cell? ⟨ga, 1, none⟩ = some (.string (natS m.1.1)) := (KW.out.at_ 1 rfl).cell 1
      have mm2 : wa.cell? ⟨ga, 2, none⟩ = some (.string (natS m.1.2)) := (KW.out.at_ 1 rfl).cell 2
      have mm3 : wa.cell? ⟨ga, 3, none⟩ = some (.bool false) := (KW.out.at_ 1 rfl).cell 3
      have mm4 : wa.cell? ⟨ga, 4, none⟩ = some (.string (natS m.2.1)) := (KW.out.at_ 1 rfl).cell 4
      have mm5 : wa.cell? ⟨ga, 5, none⟩ = some (.string (natS m.2.2)) := (KW.out.at_ 1 rfl).cell 5
      cases b
      case true =>
        exact absurd (hNC.out i (by rw [← hn.out]; exact hlt)) (by rw [← hm.out, ← hbm.out]; decide)
      case false =>
        go_wp2_with (go_at_call 66; refine (hXi.out _).mono ?_; rintro en wc ⟨rfl, hb⟩; replace hb2 := Lib.hid (hb2.out.trans (hb.mono hb2.out.size)); clear hb)
        go_roundg (n - (i + 1))
        case measure => omega
        case rel =>
          exact ⟨i + 1, by go_num, by omega, Nat.le_refl _, Lib.hid (fun t ht => by
            rcases Nat.lt_or_ge t i with h | h
            · exact I.out t h
            · obtain rfl : t = i := by omega
              rw [← hm.out, ← hbm.out]), hb2⟩
    case neg =>
      obtain rfl : i = n := by omega
      replace hB := Lib.hid (hB.out.trans (hb.out.mono hB.out.size))
      replace K := Lib.hid (K.out.below hb.out)
      replace hLm := Lib.hid (hLm.out.below hb.out)
      clear hb hA hX I hg
      have ll0 : wr.cell? ⟨w.heap.size, 0, none⟩ = some (.bool false) := (K.out.at_ 0 rfl).cell 0
      have ll1 : wr.cell? ⟨w.heap.size, 1, none⟩ = some (.string (natS l.1.1)) := (K.out.at_ 0 rfl).cell 1
      have ll2 : wr.cell? ⟨w.heap.size, 2, none⟩ = some (.string (natS l.1.2)) := (K.out.at_ 0 rfl).cell 2
      have ll3 : wr.cell? ⟨w.heap.size, 3, none⟩ = some (.bool false) := (K.out.at_ 0 rfl).cell 3
      have ll4 : wr.cell? ⟨w.heap.size, 4, none⟩ = some (.string (natS l.2.1)) := (K.out.at_ 0 rfl).cell 4
      have ll5 : wr.cell? ⟨w.heap.size, 5, none⟩ = some (.string (natS l.2.2)) := (K.out.at_ 0 rfl).cell 5
      go_wp2_with fail
      refine (hPl.out _ hLm.out).mono ?_
      rintro en w4 ⟨rfl, hb⟩
      replace hB := Lib.hid (hB.out.trans (hb.mono hB.out.size))
      replace K := Lib.hid ((K.out.below hb))
      replace hLm := Lib.hid ((hLm.out.below hb))
      clear ll0 ll1 ll2 ll3 ll4 ll5 hb hPl
      have y1 : w4.cell? ⟨x, 1, none⟩ = some (.slice A i c) := by rw [hn.out]; exact hLm.out.blk.cell 1
      have hn5 : 4096 ≤ i := by rw [hn.out]; omega
      clear K hLm
      go_wp2_with fail
      go_ret
      exact ⟨rfl, hB.out⟩
set_option maxRecDepth 100000 in
set_option maxHeartbeats 4000000 in
theorem lAdd_new (B x Kp : Nat) (v : Value) (L : List Lf) (l : Lf) (w : World) (hL : Lam w B x v L) (hl : AngL l) (hlt : cmpP l.1 l.2 < 0) (hM : ∀ m, m ∈ L → AngL m) (hP : Plc L l Kp) (hlen : L.length ≤ 4096) (hcr : noCross l L) (hhas : ¬ (Kp < L.length ∧ L[Kp]! = l)) (hlong : L.length < 4096) (hI : InsLaw B v L l Kp) (hBw : B ≤ w.heap.size) (hxv : v.ownBlock ≠ some x) :
    Calls Tryz.prog 45 #[.pointer (some ⟨x, 0, none⟩), .agg #[.bool false, .string (natS l.1.1), .string (natS l.1.2), .bool false, .string (natS l.2.1), .string (natS l.2.2)]] w (fun e w' => e = .returned (.int .i64 0) ∧ ∃ v', Lam w' B x v' (putL L l Kp) ∧ But (fun k => k = x ∨ v.ownBlock = some k) w w') := by
  obtain ⟨A, c, rfl, hA⟩ := LRow.form hL.row
  have hN : Hid (∀ W, Blk W x 103 #[.bool true, .slice A L.length c] → Calls Tryz.prog 76 #[.pointer (some ⟨x, 0, none⟩)] W (RetVal (.bool false) W)) := Lib.hid (fun W h => lnone_any x true _ W h)
  have hCk := Lib.hid (fun W => lchk_ok l hl hlt W)
  have hX : Hid (∀ (t : Nat) (m : Lf) (b : Bool), t < L.length → m = L[t]! → b = partsP l m.1 m.2 → ∀ W, Calls Tryz.prog 66 #[.agg #[.bool false, .string (natS l.1.1), .string (natS l.1.2), .bool false, .string (natS l.2.1), .string (natS l.2.2)], .agg #[.bool false, .string (natS m.1.1), .string (natS m.1.2), .bool false, .string (natS m.2.1), .string (natS m.2.2)]] W (RetVal (.bool b) W)) := Lib.hid (fun t m b ht hm hb W => by
    subst hm hb
    exact lcrosses_any l _ W hl (hM _ (by rw [getElem!_pos L t ht]; exact List.getElem_mem ht)))
  have hLm := Lib.hid hL
  obtain ⟨n, hn⟩ : ∃ n, n = L.length := ⟨_, rfl⟩
  have hKn : Kp ≤ n := by rw [hn]; exact hP.le
  have hn4 : n ≤ 1048576 := by omega
  obtain ⟨hs, hhs⟩ : ∃ b, b = decide (Kp < L.length ∧ L[Kp]! = l) := ⟨_, rfl⟩
  have hPl : Hid (∀ W, Lam W B x (.slice A L.length c) L → Calls Tryz.prog 92 #[.pointer (some ⟨x, 0, none⟩), .agg #[.bool false, .string (natS l.1.1), .string (natS l.1.2), .bool false, .string (natS l.2.1), .string (natS l.2.2)]] W (RetVal (.tuple #[.int .i64 (Kp : Int), .bool hs]) W)) := Lib.hid (fun W h => by rw [hhs]; exact lplace_any B x Kp _ L l W h hl hM hP (by omega))
  obtain rfl : hs = false := by rw [hhs]; exact decide_eq_false hhas
  clear hhs hhas
  have hNC := Lib.hid hcr
  clear hcr
  have hIn := Lib.hid hI
  clear hI
  have hBB := Lib.hid hBw
  have hXV := Lib.hid hxv
  have hVB := Lib.hid (fun k (h : (Value.slice A L.length c).ownBlock = some k) => (World.ownsRow.lt hL.row k h).2)
  clear hBw hxv
  have hBW : Below w.heap.size w (w.alloc (.cells #[.bool false, .string (natS l.1.1), .string (natS l.1.2), .bool false, .string (natS l.2.1), .string (natS l.2.2)] 38)) := ((Below.refl _ w).alloc (Nat.le_refl _) _)
  have kk0 := (Blk.new w 38 #[.bool false, .string (natS l.1.1), .string (natS l.1.2), .bool false, .string (natS l.2.1), .string (natS l.2.2)])
  have K := Lib.hid (KeepT.one kk0)
  have hB := Lib.hid hBW
  clear hBW kk0
  replace hLm := Lib.hid (hLm.out.alloc (.cells #[.bool false, .string (natS l.1.1), .string (natS l.1.2), .bool false, .string (natS l.2.1), .string (natS l.2.2)] 38))
  go_enter Tryz.func45, Tryz.ntmps45
  go_upto_region 1 with fail
  generalize hW : (w.alloc (.cells #[.bool false, .string (natS l.1.1), .string (natS l.1.2), .bool false, .string (natS l.2.1), .string (natS l.2.2)] 38)) = w1 at hB K hLm ⊢
  clear hW hL hl hlt hM hP
  skip
  replace hn := Lib.hid hn
  go_wp2_with fail
  refine (hN.out _ hLm.out.blk).mono ?_
  rintro en w2 ⟨rfl, hb⟩
  replace hB := Lib.hid (hB.out.trans (hb.mono hB.out.size))
  replace K := Lib.hid ((K.out.below hb))
  replace hLm := Lib.hid ((hLm.out.below hb))
  clear  hb hN
  have ll0 : w2.cell? ⟨w.heap.size, 0, none⟩ = some (.bool false) := (K.out.at_ 0 rfl).cell 0
  have ll1 : w2.cell? ⟨w.heap.size, 1, none⟩ = some (.string (natS l.1.1)) := (K.out.at_ 0 rfl).cell 1
  have ll2 : w2.cell? ⟨w.heap.size, 2, none⟩ = some (.string (natS l.1.2)) := (K.out.at_ 0 rfl).cell 2
  have ll3 : w2.cell? ⟨w.heap.size, 3, none⟩ = some (.bool false) := (K.out.at_ 0 rfl).cell 3
  have ll4 : w2.cell? ⟨w.heap.size, 4, none⟩ = some (.string (natS l.2.1)) := (K.out.at_ 0 rfl).cell 4
  have ll5 : w2.cell? ⟨w.heap.size, 5, none⟩ = some (.string (natS l.2.2)) := (K.out.at_ 0 rfl).cell 5
  go_wp2_with fail
  refine (hCk.out _).mono ?_
  rintro en w3 ⟨rfl, hb⟩
  replace hB := Lib.hid (hB.out.trans (hb.mono hB.out.size))
  replace K := Lib.hid ((K.out.below hb))
  replace hLm := Lib.hid ((hLm.out.below hb))
  clear ll0 ll1 ll2 ll3 ll4 ll5 hb hCk
  have y1 : w3.cell? ⟨x, 1, none⟩ = some (.slice A n c) := by rw [hn.out]; exact hLm.out.blk.cell 1
  go_wp2
  clear y1
  go_loopg [22] n (fun kx s22 wr => ∃ i : Nat, s22 = .int .i64 (i : Int) ∧ i ≤ n ∧ n - i ≤ kx ∧ Hid (∀ t, t < i → partsP l L[t]!.1 L[t]!.2 = false) ∧ Hid (Below w3.heap.size w3 wr))
  case atStart => exact ⟨0, rfl, Nat.zero_le _, Nat.le_refl _, Lib.hid (fun t ht => absurd ht (Nat.not_lt_zero _)), Lib.hid (Below.refl _ _)⟩
  case round =>
    obtain ⟨i, rfl, hin, hg, I, hb⟩ := hrel
    by_cases hlt : i < n
    case pos =>
      have hil : i < L.length := by rw [← hn.out]; exact hlt
      obtain ⟨g, rfl⟩ := hA (by omega)
      clear hA
      obtain ⟨m, hm⟩ : ∃ m, m = L[i]! := ⟨_, rfl⟩
      obtain ⟨b, hbm⟩ : ∃ b, b = partsP l m.1 m.2 := ⟨_, rfl⟩
      have hXi := Lib.hid (hX.out i m b hil hm hbm)
      have hC := LRow.cell (hLm.out.below hb.out).row hil
      rw [← hm] at hC
      have m0 : wr.cell? ⟨g, i * 6, none⟩ = some (.bool false) := hC 0 _ rfl
      have m1 : wr.cell? ⟨g, i * 6 + 1, none⟩ = some (.string (natS m.1.1)) := hC 1 _ rfl
      have m2 : wr.cell? ⟨g, i * 6 + 2, none⟩ = some (.string (natS m.1.2)) := hC 2 _ rfl
      have m3 : wr.cell? ⟨g, i * 6 + 3, none⟩ = some (.bool false) := hC 3 _ rfl
      have m4 : wr.cell? ⟨g, i * 6 + 4, none⟩ = some (.string (natS m.2.1)) := hC 4 _ rfl
      have m5 : wr.cell? ⟨g, i * 6 + 5, none⟩ = some (.string (natS m.2.2)) := hC 5 _ rfl
      clear hC hil
      have hiz : (i : Int) < (n : Int) := by omega
      have hb2 := Lib.hid (hb.out.alloc hb.out.size (.cells #[.bool false, .string (natS m.1.1), .string (natS m.1.2), .bool false, .string (natS m.2.1), .string (natS m.2.2)] 38))
      have KW := Lib.hid (((K.out.below hb.out).alloc (.cells #[.bool false, .string (natS m.1.1), .string (natS m.1.2), .bool false, .string (natS m.2.1), .string (natS m.2.2)] 38)).snoc (Blk.new wr 38 #[.bool false, .string (natS m.1.1), .string (natS m.1.2), .bool false, .string (natS m.2.1), .string (natS m.2.2)]))
      replace I := Lib.hid I
      replace hm := Lib.hid hm
      replace hbm := Lib.hid hbm
      go_upto_region 9 with fail
      generalize hW : wr.alloc (.cells #[.bool false, .string (natS m.1.1), .string (natS m.1.2), .bool false, .string (natS m.2.1), .string (natS m.2.2)] 38) = wa at hb2 KW ⊢
      generalize hgg : wr.heap.size = ga at KW ⊢
      clear hW hgg m0 m1 m2 m3 m4 m5 hiz hb
      have ll0 : wa.cell? ⟨w.heap.size, 0, none⟩ = some (.bool false) := (KW.out.at_ 0 rfl).cell 0
      have ll1 : wa.cell? ⟨w.heap.size, 1, none⟩ = some (.string (natS l.1.1)) := (KW.out.at_ 0 rfl).cell 1
      have ll2 : wa.cell? ⟨w.heap.size, 2, none⟩ = some (.string (natS l.1.2)) := (KW.out.at_ 0 rfl).cell 2
      have ll3 : wa.cell? ⟨w.heap.size, 3, none⟩ = some (.bool false) := (KW.out.at_ 0 rfl).cell 3
      have ll4 : wa.cell? ⟨w.heap.size, 4, none⟩ = some (.string (natS l.2.1)) := (KW.out.at_ 0 rfl).cell 4
      have ll5 : wa.cell? ⟨w.heap.size, 5, none⟩ = some (.string (natS l.2.2)) := (KW.out.at_ 0 rfl).cell 5
      have mm0 : wa.cell? ⟨ga, 0, none⟩ = some (.bool false) := (KW.out.at_ 1 rfl).cell 0
      have mm1 : wa.cell? ⟨ga, 1, none⟩ = some (.string (natS m.1.1)) := (KW.out.at_ 1 rfl).cell 1
      have mm2 : wa.cell? ⟨ga, 2, none⟩ = some (.string (natS m.1.2)) := (KW.out.at_ 1 rfl).cell 2
      have mm3 : wa.cell? ⟨ga, 3, none⟩ = some (.bool false) := (KW.out.at_ 1 rfl).cell 3
      have mm4 : wa.cell? ⟨ga, 4, none⟩ = some (.string (natS m.2.1)) := (KW.out.at_ 1 rfl).cell 4
      have mm5 : wa.cell? ⟨ga, 5, none⟩ = some (.string (natS m.2.2)) := (KW.out.at_ 1 rfl).cell 5
      cases b
      case true =>
        exact absurd (hNC.out i (by rw [← hn.out]; exact hlt)) (by rw [← hm.out, ← hbm.out]; decide)
      case false =>
        go_wp2_with (go_at_call 66; refine (hXi.out _).mono ?_; rintro en wc ⟨rfl, hb⟩; replace hb2 := Lib.hid (hb2.out.trans (hb.mono hb2.out.size)); clear hb)
        go_roundg (n - (i + 1))
        case measure => omega
        case rel =>
          exact ⟨i + 1, by go_num, by omega, Nat.le_refl _, Lib.hid (fun t ht => by
            rcases Nat.lt_or_ge t i with h | h
            · exact I.out t h
            · obtain rfl : t = i := by omega
              rw [← hm.out, ← hbm.out]), hb2⟩
    case neg =>
      obtain rfl : i = n := by omega
      replace hB := Lib.hid (hB.out.trans (hb.out.mono hB.out.size))
      replace K := Lib.hid (K.out.below hb.out)
      replace hLm := Lib.hid (hLm.out.below hb.out)
      clear hb hA hX I hg
      have ll0 : wr.cell? ⟨w.heap.size, 0, none⟩ = some (.bool false) := (K.out.at_ 0 rfl).cell 0
      have ll1 : wr.cell? ⟨w.heap.size, 1, none⟩ = some (.string (natS l.1.1)) := (K.out.at_ 0 rfl).cell 1
      have ll2 : wr.cell? ⟨w.heap.size, 2, none⟩ = some (.string (natS l.1.2)) := (K.out.at_ 0 rfl).cell 2
      have ll3 : wr.cell? ⟨w.heap.size, 3, none⟩ = some (.bool false) := (K.out.at_ 0 rfl).cell 3
      have ll4 : wr.cell? ⟨w.heap.size, 4, none⟩ = some (.string (natS l.2.1)) := (K.out.at_ 0 rfl).cell 4
      have ll5 : wr.cell? ⟨w.heap.size, 5, none⟩ = some (.string (natS l.2.2)) := (K.out.at_ 0 rfl).cell 5
      go_wp2_with fail
      refine (hPl.out _ hLm.out).mono ?_
      rintro en w4 ⟨rfl, hb⟩
      replace hB := Lib.hid (hB.out.trans (hb.mono hB.out.size))
      replace K := Lib.hid ((K.out.below hb))
      replace hLm := Lib.hid ((hLm.out.below hb))
      clear ll0 ll1 ll2 ll3 ll4 ll5 hb hPl
      have y1 : w4.cell? ⟨x, 1, none⟩ = some (.slice A i c) := by rw [hn.out]; exact hLm.out.blk.cell 1
      have hn5 : ¬ 4096 ≤ i := by rw [hn.out]; omega
      have ll0 : w4.cell? ⟨w.heap.size, 0, none⟩ = some (.bool false) := (K.out.at_ 0 rfl).cell 0
      have ll1 : w4.cell? ⟨w.heap.size, 1, none⟩ = some (.string (natS l.1.1)) := (K.out.at_ 0 rfl).cell 1
      have ll2 : w4.cell? ⟨w.heap.size, 2, none⟩ = some (.string (natS l.1.2)) := (K.out.at_ 0 rfl).cell 2
      have ll3 : w4.cell? ⟨w.heap.size, 3, none⟩ = some (.bool false) := (K.out.at_ 0 rfl).cell 3
      have ll4 : w4.cell? ⟨w.heap.size, 4, none⟩ = some (.string (natS l.2.1)) := (K.out.at_ 0 rfl).cell 4
      have ll5 : w4.cell? ⟨w.heap.size, 5, none⟩ = some (.string (natS l.2.2)) := (K.out.at_ 0 rfl).cell 5
      go_upto_region 17 with fail
      have hIn2 : Hid (Calls Tryz.prog 94 #[.slice A i c, .int .i64 (Kp : Int), .slice (some ⟨w4.heap.size, 0, none⟩) 1 1] (w4.alloc (.cells #[.bool false, .string (natS l.1.1), .string (natS l.1.2), .bool false, .string (natS l.2.1), .string (natS l.2.2)] 38)).drew (fun e w' => ∃ v', e = .returned v' ∧ Hid (LRow w' B v' (putL L l Kp)) ∧ Hid ((w4.alloc (.cells #[.bool false, .string (natS l.1.1), .string (natS l.1.2), .bool false, .string (natS l.2.1), .string (natS l.2.2)] 38)).drew.grownBy w' (Value.slice A i c).ownBlock))) := Lib.hid (by
        have h := hIn.out w4.heap.size (w4.alloc (.cells #[.bool false, .string (natS l.1.1), .string (natS l.1.2), .bool false, .string (natS l.2.1), .string (natS l.2.2)] 38)).drew ((LRow.alloc hLm.out.row _).below ((Below.refl _ _).drew)) (Blk.drew (Blk.new w4 38 #[.bool false, .string (natS l.1.1), .string (natS l.1.2), .bool false, .string (natS l.2.1), .string (natS l.2.2)])) (by have h1 := hBB.out; have h2 := hB.out.size; show B ≤ (w4.alloc (.cells #[.bool false, .string (natS l.1.1), .string (natS l.1.2), .bool false, .string (natS l.2.1), .string (natS l.2.2)] 38)).heap.size; simp; omega)
        rw [hn.out]
        exact h)
      have hX4 : Hid (Blk w4 x 103 #[.bool true, .slice A i c]) := Lib.hid (by rw [hn.out]; exact hLm.out.blk)
      have hXV2 : Hid ((Value.slice A i c).ownBlock ≠ some x) := Lib.hid (by rw [hn.out]; exact hXV.out)
      have y2 : (w4.alloc (.cells #[.bool false, .string (natS l.1.1), .string (natS l.1.2), .bool false, .string (natS l.2.1), .string (natS l.2.2)] 38)).cell? ⟨x, 1, none⟩ = some (.slice A i c) := (Blk.alloc hX4.out (.cells #[.bool false, .string (natS l.1.1), .string (natS l.1.2), .bool false, .string (natS l.2.1), .string (natS l.2.2)] 38)).cell 1
      have hBs := Lib.hid hLm.out.base
      have K4 := Lib.hid (K.out.at_ 0 rfl)
      have hVB2 : Hid ((Value.slice A i c).ownBlock ≠ some w.heap.size) := Lib.hid (by rw [hn.out]; exact fun e => Nat.lt_irrefl _ (hVB.out _ e))
      clear hIn hLm K hXV hVB
      go_region_with (go_at_call 94; (with_reducible refine hIn2.out.mono ?_); rintro en w5 ⟨v5, rfl, hr5, hg5⟩; obtain ⟨A5, c5, hv5, -⟩ := LRow.form hr5.out; subst hv5; have hX5 := Blk.grown (Blk.drew (Blk.alloc hX4.out (.cells #[.bool false, .string (natS l.1.1), .string (natS l.1.2), .bool false, .string (natS l.2.1), .string (natS l.2.2)] 38))) hg5.out (fun e => hXV2.out e.symm); have z1 : w5.cell? ⟨x, 1, none⟩ = some (.slice A i c) := hX5.cell 1; have zf := hX5.frozen 1; have hK5 := Blk.grown (Blk.drew (Blk.alloc K4.out (.cells #[.bool false, .string (natS l.1.1), .string (natS l.1.2), .bool false, .string (natS l.2.1), .string (natS l.2.2)] 38))) hg5.out (fun e => hVB2.out e.symm); have zl0 : w5.cell? ⟨w.heap.size, 0, none⟩ = some (.bool false) := hK5.cell 0; have zl1 : w5.cell? ⟨w.heap.size, 1, none⟩ = some (.string (natS l.1.1)) := hK5.cell 1; have zl2 : w5.cell? ⟨w.heap.size, 2, none⟩ = some (.string (natS l.1.2)) := hK5.cell 2; have zl3 : w5.cell? ⟨w.heap.size, 3, none⟩ = some (.bool false) := hK5.cell 3; have zl4 : w5.cell? ⟨w.heap.size, 4, none⟩ = some (.string (natS l.2.1)) := hK5.cell 4; have zl5 : w5.cell? ⟨w.heap.size, 5, none⟩ = some (.string (natS l.2.2)) := hK5.cell 5; replace hX5 := Lib.hid hX5)
      all_goals
        clear ll0 ll1 ll2 ll3 ll4 ll5 y1 y2 z1 zf zl0 zl1 zl2 zl3 zl4 zl5 hK5
        go_wp2_with fail
        go_ret
        refine ⟨rfl, _, ⟨Blk.set_ hX5.out 1 _, LRow.set hr5.out hX5.out, hBs.out⟩, ?_⟩
        have q1 : But (fun k => k = x ∨ (Value.slice A L.length c).ownBlock = some k) w w4 := But.of_below hB.out
        have q2 := (q1.alloc (.cells #[.bool false, .string (natS l.1.1), .string (natS l.1.2), .bool false, .string (natS l.2.1), .string (natS l.2.2)] 38)).below ((Below.refl _ _).drew)
        have q3 := q2.grown hg5.out (fun k hk => .inr (by rw [← hn.out]; exact hk))
        exact q3.setCell (.inl (.inl rfl)) _
open Go.RowKit Go.Sort
set_option maxRecDepth 100000 in
set_option maxHeartbeats 2000000 in
theorem lHas_any (B x Kp : Nat) (v : Value) (L : List Lf) (l : Lf) (w : World) (hL : Lam w B x v L) (hl : AngL l) (hlt : cmpP l.1 l.2 < 0) (hM : ∀ m, m ∈ L → AngL m) (hP : Plc L l Kp) (hlen : L.length ≤ 4096) :
    Calls Tryz.prog 42 #[.pointer (some ⟨x, 0, none⟩), .agg #[.bool false, .string (natS l.1.1), .string (natS l.1.2), .bool false, .string (natS l.2.1), .string (natS l.2.2)]] w (RetVal (.bool (decide (Kp < L.length ∧ L[Kp]! = l))) w) := by
  have hLm := Lib.hid hL
  have hN : Hid (∀ W, Lam W B x v L → Calls Tryz.prog 76 #[.pointer (some ⟨x, 0, none⟩)] W (RetVal (.bool false) W)) := Lib.hid (fun W h => lnone_any x true _ W h.blk)
  have hC := Lib.hid (fun W => lchk_ok l hl hlt W)
  obtain ⟨hs, hhs⟩ : ∃ b, b = decide (Kp < L.length ∧ L[Kp]! = l) := ⟨_, rfl⟩
  have hPl : Hid (∀ W, Lam W B x v L → Calls Tryz.prog 92 #[.pointer (some ⟨x, 0, none⟩), .agg #[.bool false, .string (natS l.1.1), .string (natS l.1.2), .bool false, .string (natS l.2.1), .string (natS l.2.2)]] W (RetVal (.tuple #[.int .i64 (Kp : Int), .bool hs]) W)) := Lib.hid (fun W h => by rw [hhs]; exact lplace_any B x Kp _ L l W h hl hM hP (by omega))
  rw [← hhs]
  clear hhs hl hlt hM hP hlen
  have hBW : Below w.heap.size w (w.alloc (.cells #[.bool false, .string (natS l.1.1), .string (natS l.1.2), .bool false, .string (natS l.2.1), .string (natS l.2.2)] 38)) := ((Below.refl _ w).alloc (Nat.le_refl _) _)
  have kk0 := (Blk.new w 38 #[.bool false, .string (natS l.1.1), .string (natS l.1.2), .bool false, .string (natS l.2.1), .string (natS l.2.2)])
  have K := Lib.hid (KeepT.one kk0)
  have hB := Lib.hid hBW
  clear hBW kk0
  replace hLm := Lib.hid (hLm.out.alloc (.cells #[.bool false, .string (natS l.1.1), .string (natS l.1.2), .bool false, .string (natS l.2.1), .string (natS l.2.2)] 38))
  clear hL
  go_enter Tryz.func42, Tryz.ntmps42
  go_upto_region 1 with fail
  generalize hW : (w.alloc (.cells #[.bool false, .string (natS l.1.1), .string (natS l.1.2), .bool false, .string (natS l.2.1), .string (natS l.2.2)] 38)) = w1 at hB K hLm ⊢
  clear hW
  go_wp2_with fail
  refine (hN.out _ hLm.out).mono ?_
  rintro en w2 ⟨rfl, hb⟩
  replace hB := Lib.hid (hB.out.trans (hb.mono hB.out.size))
  replace K := Lib.hid ((K.out.below hb))
  replace hLm := Lib.hid ((hLm.out.below hb))
  clear  hb hN
  have ll0 : w2.cell? ⟨w.heap.size, 0, none⟩ = some (.bool false) := (K.out.at_ 0 rfl).cell 0
  have ll1 : w2.cell? ⟨w.heap.size, 1, none⟩ = some (.string (natS l.1.1)) := (K.out.at_ 0 rfl).cell 1
  have ll2 : w2.cell? ⟨w.heap.size, 2, none⟩ = some (.string (natS l.1.2)) := (K.out.at_ 0 rfl).cell 2
  have ll3 : w2.cell? ⟨w.heap.size, 3, none⟩ = some (.bool false) := (K.out.at_ 0 rfl).cell 3
  have ll4 : w2.cell? ⟨w.heap.size, 4, none⟩ = some (.string (natS l.2.1)) := (K.out.at_ 0 rfl).cell 4
  have ll5 : w2.cell? ⟨w.heap.size, 5, none⟩ = some (.string (natS l.2.2)) := (K.out.at_ 0 rfl).cell 5
  go_wp2_with fail
  refine (hC.out _).mono ?_
  rintro en w3 ⟨rfl, hb⟩
  replace hB := Lib.hid (hB.out.trans (hb.mono hB.out.size))
  replace K := Lib.hid ((K.out.below hb))
  replace hLm := Lib.hid ((hLm.out.below hb))
  clear ll0 ll1 ll2 ll3 ll4 ll5 hb hC
  have ll0 : w3.cell? ⟨w.heap.size, 0, none⟩ = some (.bool false) := (K.out.at_ 0 rfl).cell 0
  have ll1 : w3.cell? ⟨w.heap.size, 1, none⟩ = some (.string (natS l.1.1)) := (K.out.at_ 0 rfl).cell 1
  have ll2 : w3.cell? ⟨w.heap.size, 2, none⟩ = some (.string (natS l.1.2)) := (K.out.at_ 0 rfl).cell 2
  have ll3 : w3.cell? ⟨w.heap.size, 3, none⟩ = some (.bool false) := (K.out.at_ 0 rfl).cell 3
  have ll4 : w3.cell? ⟨w.heap.size, 4, none⟩ = some (.string (natS l.2.1)) := (K.out.at_ 0 rfl).cell 4
  have ll5 : w3.cell? ⟨w.heap.size, 5, none⟩ = some (.string (natS l.2.2)) := (K.out.at_ 0 rfl).cell 5
  go_wp2_with fail
  refine (hPl.out _ hLm.out).mono ?_
  rintro en w4 ⟨rfl, hb⟩
  replace hB := Lib.hid (hB.out.trans (hb.mono hB.out.size))
  replace K := Lib.hid ((K.out.below hb))
  replace hLm := Lib.hid ((hLm.out.below hb))
  clear ll0 ll1 ll2 ll3 ll4 ll5 hb hPl K hLm
  go_wp2_with fail
  go_ret
  exact ⟨rfl, hB.out⟩
open Go.RowKit Go.Sort
end Go.Proofs.YtoaggmegmgdgbaaGreat
