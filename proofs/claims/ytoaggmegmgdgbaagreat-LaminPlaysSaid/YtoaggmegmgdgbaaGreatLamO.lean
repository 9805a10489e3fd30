import Derived.Test.YtoaggmegmgdgbaaGreatLamR
import Derived.Test.YtoaggmegmgdgbaaGreatLamK
import Derived.Deep.CutBlock
import Derived.Deep.CutRange
namespace Go.Proofs.YtoaggmegmgdgbaaGreat
open Go.RowKit Go.Sort
def open1 (L : List Lf) (l : Lf) (d : Int) : Bool × Int := if roundB d then (opensL L d.toNat l, 0) else (false, 2)
set_option maxRecDepth 100000 in
set_option maxHeartbeats 4000000 in
theorem lOpen1_any (B x gd gx : Nat) (v : Value) (L : List Lf) (l : Lf) (d : Int) (w : World) (hS : LamS w B x v L) (hl : AngL l) (hd : Blk w gd 3 #[.int .i64 d]) (hx : Blk w gx 63 #[.pointer (some ⟨x, 0, none⟩)]) :
    Calls Tryz.prog 91 #[.agg #[.bool false, .string (natS l.1.1), .string (natS l.1.2), .bool false, .string (natS l.2.1), .string (natS l.2.2)], .pointer (some ⟨gd, 0, none⟩), .pointer (some ⟨gx, 0, none⟩)] w (RetVal (.tuple #[.bool (open1 L l d).1, .int .i64 (open1 L l d).2]) w) := by
  obtain ⟨r, hr⟩ : ∃ r, r = open1 L l d := ⟨_, rfl⟩
  rw [← hr]
  have hPl : Hid (∀ m W, AngL m → LamS W B x v L → Calls Tryz.prog 92 #[.pointer (some ⟨x, 0, none⟩), .agg #[.bool false, .string (natS m.1.1), .string (natS m.1.2), .bool false, .string (natS m.2.1), .string (natS m.2.2)]] W (RetVal (.tuple #[.int .i64 (plcL L m : Int), .bool (decide (m ∈ L))]) W)) := Lib.hid (fun m W hm h => lplace_leaf B x v L m W h hm)
  have hcase : (∃ e : Int, (e = 0 ∨ e = 2) ∧ r = (false, e) ∧ Hid (∀ W, Calls Tryz.prog 69 #[.agg #[.bool false, .string (natS l.1.1), .string (natS l.1.2), .bool false, .string (natS l.2.1), .string (natS l.2.2)], .int .i64 d] W (RetVal (.tuple #[.agg #[.bool false, .string ⟨#[]⟩, .string ⟨#[]⟩, .bool false, .string ⟨#[]⟩, .string ⟨#[]⟩], .bool false, .int .i64 e]) W))) ∨
      (∃ m, AngL m ∧ r = (decide (m ∉ L), 0) ∧ Hid (∀ W, Calls Tryz.prog 69 #[.agg #[.bool false, .string (natS l.1.1), .string (natS l.1.2), .bool false, .string (natS l.2.1), .string (natS l.2.2)], .int .i64 d] W (RetVal (.tuple #[.agg #[.bool false, .string (natS m.1.1), .string (natS m.1.2), .bool false, .string (natS m.2.1), .string (natS m.2.2)], .bool true, .int .i64 0]) W))) := by
    cases h1 : roundB d
    case false =>
      refine .inl ⟨2, .inr rfl, by rw [hr, open1, h1]; rfl, Lib.hid (fun W => ?_)⟩
      have h := lturned_any l d W hl
      rw [show turnLf l d = (leaf0, false, 2) by unfold turnLf; rw [h1]; rfl] at h
      exact h
    case true =>
      have ht := turnLf_turnP (l := l) h1
      rcases hm : turnP d.toNat l with _ | m
      · rw [hm] at ht
        refine .inl ⟨0, .inl rfl, by rw [hr, open1, h1, if_pos rfl, opensL, hm], Lib.hid (fun W => ?_)⟩
        have h := lturned_any l d W hl
        rw [ht] at h
        exact h
      · rw [hm] at ht
        refine .inr ⟨m, (turnP_lfp hl hm).1, by rw [hr, open1, h1, if_pos rfl, opensL, hm], Lib.hid (fun W => ?_)⟩
        have h := lturned_any l d W hl
        rw [ht] at h
        exact h
  clear hr
  have hBW : Below w.heap.size w (w.alloc (.cells #[.bool false, .string (natS l.1.1), .string (natS l.1.2), .bool false, .string (natS l.2.1), .string (natS l.2.2)] 38)) := ((Below.refl _ w).alloc (Nat.le_refl _) _)
  have kk0 := (Blk.new w 38 #[.bool false, .string (natS l.1.1), .string (natS l.1.2), .bool false, .string (natS l.2.1), .string (natS l.2.2)])
  have K := Lib.hid (KeepT.one kk0)
  have hB := Lib.hid hBW
  clear hBW kk0
  have hS1 := Lib.hid (hS.alloc (.cells #[.bool false, .string (natS l.1.1), .string (natS l.1.2), .bool false, .string (natS l.2.1), .string (natS l.2.2)] 38))
  have KK := Lib.hid (((K.out.snoc (Blk.alloc hd (.cells #[.bool false, .string (natS l.1.1), .string (natS l.1.2), .bool false, .string (natS l.2.1), .string (natS l.2.2)] 38))).snoc (Blk.alloc hx (.cells #[.bool false, .string (natS l.1.1), .string (natS l.1.2), .bool false, .string (natS l.2.1), .string (natS l.2.2)] 38))))
  clear K hS hd hx hl
  go_enter Tryz.func91, Tryz.ntmps91
  go_upto_region 1 with fail
  generalize hW : (w.alloc (.cells #[.bool false, .string (natS l.1.1), .string (natS l.1.2), .bool false, .string (natS l.2.1), .string (natS l.2.2)] 38)) = w1 at hB KK hS1 ⊢
  clear hW
  have ll0 : w1.cell? ⟨w.heap.size, 0, none⟩ = some (.bool false) := (KK.out.at_ 0 rfl).cell 0
  have ll1 : w1.cell? ⟨w.heap.size, 1, none⟩ = some (.string (natS l.1.1)) := (KK.out.at_ 0 rfl).cell 1
  have ll2 : w1.cell? ⟨w.heap.size, 2, none⟩ = some (.string (natS l.1.2)) := (KK.out.at_ 0 rfl).cell 2
  have ll3 : w1.cell? ⟨w.heap.size, 3, none⟩ = some (.bool false) := (KK.out.at_ 0 rfl).cell 3
  have ll4 : w1.cell? ⟨w.heap.size, 4, none⟩ = some (.string (natS l.2.1)) := (KK.out.at_ 0 rfl).cell 4
  have ll5 : w1.cell? ⟨w.heap.size, 5, none⟩ = some (.string (natS l.2.2)) := (KK.out.at_ 0 rfl).cell 5
  have dd0 : w1.cell? ⟨gd, 0, none⟩ = some (.int .i64 d) := (KK.out.at_ 1 rfl).cell 0
  rcases hcase with ⟨e, he, rfl, hT⟩ | ⟨m, hm, hr2, hT⟩
  case inl =>
    go_wp2_with fail
    refine (hT.out _).mono ?_
    rintro en w2 ⟨rfl, hb⟩
    replace hB := Lib.hid (hB.out.trans (hb.mono hB.out.size))
    clear ll0 ll1 ll2 ll3 ll4 ll5 dd0 hb hT hPl KK hS1
    rcases he with rfl | rfl
    all_goals
      go_wp2_with fail
      go_ret2
      exact ⟨rfl, hB.out.alloc hB.out.size _⟩
  case inr =>
    go_wp2_with fail
    refine (hT.out _).mono ?_
    rintro en w2 ⟨rfl, hb⟩
    replace hB := Lib.hid (hB.out.trans (hb.mono hB.out.size))
    replace KK := Lib.hid ((KK.out.below hb))
    replace hS1 := Lib.hid ((hS1.out.below hb))
    clear ll0 ll1 ll2 ll3 ll4 ll5 dd0 hb hT
    have hne : Hid (AngL m) := Lib.hid hm
    clear hm
    go_upto_region 2 with fail
    have KM := Lib.hid ((KK.out.alloc (.cells #[.bool false, .string (natS m.1.1), .string (natS m.1.2), .bool false, .string (natS m.2.1), .string (natS m.2.2)] 38)).snoc (Blk.new w2 38 #[.bool false, .string (natS m.1.1), .string (natS m.1.2), .bool false, .string (natS m.2.1), .string (natS m.2.2)]))
    replace hS1 := Lib.hid (hS1.out.alloc (.cells #[.bool false, .string (natS m.1.1), .string (natS m.1.2), .bool false, .string (natS m.2.1), .string (natS m.2.2)] 38))
    replace hB := Lib.hid (hB.out.alloc hB.out.size (.cells #[.bool false, .string (natS m.1.1), .string (natS m.1.2), .bool false, .string (natS m.2.1), .string (natS m.2.2)] 38))
    generalize hW : w2.alloc (.cells #[.bool false, .string (natS m.1.1), .string (natS m.1.2), .bool false, .string (natS m.2.1), .string (natS m.2.2)] 38) = w3 at hB KM hS1 ⊢
    generalize hg : w2.heap.size = g3 at KM ⊢
    clear hW hg KK
    have mm0 : w3.cell? ⟨g3, 0, none⟩ = some (.bool false) := (KM.out.at_ 3 rfl).cell 0
    have mm1 : w3.cell? ⟨g3, 1, none⟩ = some (.string (natS m.1.1)) := (KM.out.at_ 3 rfl).cell 1
    have mm2 : w3.cell? ⟨g3, 2, none⟩ = some (.string (natS m.1.2)) := (KM.out.at_ 3 rfl).cell 2
    have mm3 : w3.cell? ⟨g3, 3, none⟩ = some (.bool false) := (KM.out.at_ 3 rfl).cell 3
    have mm4 : w3.cell? ⟨g3, 4, none⟩ = some (.string (natS m.2.1)) := (KM.out.at_ 3 rfl).cell 4
    have mm5 : w3.cell? ⟨g3, 5, none⟩ = some (.string (natS m.2.2)) := (KM.out.at_ 3 rfl).cell 5
    have xx0 : w3.cell? ⟨gx, 0, none⟩ = some (.pointer (some ⟨x, 0, none⟩)) := (KM.out.at_ 2 rfl).cell 0
    go_wp2_with fail
    refine (hPl.out m _ hne.out hS1.out).mono ?_
    rintro en w4 ⟨rfl, hb⟩
    replace hB := Lib.hid (hB.out.trans (hb.mono hB.out.size))
    clear mm0 mm1 mm2 mm3 mm4 mm5 xx0 hb hPl KM hS1 hne
    by_cases hmm : m ∈ L
    · have e1 : decide (m ∈ L) = true := decide_eq_true hmm
      have hr3 : Hid (r = (false, 0)) := Lib.hid (by rw [hr2]; simp [hmm])
      rw [e1]
      clear hmm hr2 e1
      go_wp2_with fail
      go_ret2
      exact ⟨by rw [hr3.out]; rfl, hB.out⟩
    · have e1 : decide (m ∈ L) = false := decide_eq_false hmm
      have hr3 : Hid (r = (true, 0)) := Lib.hid (by rw [hr2]; simp [hmm])
      rw [e1]
      clear hmm hr2 e1
      go_wp2_with fail
      go_ret2
      exact ⟨by rw [hr3.out]; rfl, hB.out⟩
def fq : Option Lf → Bool × ByteArray × ByteArray × ByteArray × ByteArray
  | some l => (true, natS l.1.1, natS l.1.2, natS l.2.1, natS l.2.2)
  | none => (false, ⟨#[]⟩, ⟨#[]⟩, ⟨#[]⟩, ⟨#[]⟩)
section
variable {A B : World} {r : Nat → Prop} {g : Nat} {T : TypeId} {cs : Array Value} {base x : Nat} {v : Value} {L : List Lf}
theorem Blk.but (h : Blk A g T cs) (hb : But r A B) (hr : ¬ r g) : Blk B g T cs := (hb.block g h.lt hr).trans h
theorem LRow.but (h : LRow A base v L) (hb : But r A B) (hr : ∀ k, v.ownBlock = some k → ¬ r k) : LRow B base v L := by
  obtain ⟨h1, h2⟩ := h
  refine ⟨h1, h2.imp id ?_⟩
  rintro ⟨g, cap, cur, rfl, hbs, hg, rest⟩
  have hlt : g < A.heap.size := by
    rcases Nat.lt_or_ge g A.heap.size with h | h
    · exact h
    · rw [Array.getElem?_eq_none h] at hg; cases hg
  exact ⟨g, cap, cur, rfl, hbs, (hb.block g hlt (hr g rfl)).trans hg, rest⟩
theorem LamS.but (h : LamS A base x v L) (hb : But r A B) (hx : ¬ r x) (hr : ∀ k, v.ownBlock = some k → ¬ r k) : LamS B base x v L := ⟨⟨Blk.but h.lam.blk hb hx, LRow.but h.lam.row hb hr, h.lam.base⟩, h.ok, h.len⟩
theorem But.set6 (A : World) (g : Nat) (v0 v1 v2 v3 v4 v5 : Value) : But (fun k => k = g) A ((((((A.setCell ⟨g, 0, none⟩ v0).setCell ⟨g, 1, none⟩ v1).setCell ⟨g, 2, none⟩ v2).setCell ⟨g, 3, none⟩ v3).setCell ⟨g, 4, none⟩ v4).setCell ⟨g, 5, none⟩ v5) := by
  have q : But (fun k => k = g) A A := But.refl _ A
  have q0 := q.setCell (p := ⟨g, 0, none⟩) (Or.inl (rfl : g = g)) v0
  have q1 := q0.setCell (p := ⟨g, 1, none⟩) (Or.inl (rfl : g = g)) v1
  have q2 := q1.setCell (p := ⟨g, 2, none⟩) (Or.inl (rfl : g = g)) v2
  have q3 := q2.setCell (p := ⟨g, 3, none⟩) (Or.inl (rfl : g = g)) v3
  have q4 := q3.setCell (p := ⟨g, 4, none⟩) (Or.inl (rfl : g = g)) v4
  exact q4.setCell (p := ⟨g, 5, none⟩) (Or.inl (rfl : g = g)) v5
theorem But.toBelow' {n : Nat} (h : But r A B) (hn : n ≤ A.heap.size) (hr : ∀ k, r k → n ≤ k) : Below n A B := h.toBelow hn (fun k hk e => by have := hr k e; omega)
end
theorem openV_step {L : List Lf} {d : Int} (h0 : L ≠ []) (h1 : roundB d = true) : openV L d = match L.find? (opensL L d.toNat) with | some l => (leafV l, true, 0) | none => (leaf0, false, 0) := by
  unfold openV openL
  rw [if_neg h0, h1, if_pos rfl]
  rcases L.find? (opensL L d.toNat) with _ | _ <;> rfl
set_option maxRecDepth 100000 in
set_option maxHeartbeats 4000000 in
theorem lOpen_any (B x : Nat) (v : Value) (L : List Lf) (d : Int) (w : World) (hS : LamS w B x v L) :
    Calls Tryz.prog 40 #[.pointer (some ⟨x, 0, none⟩), .int .i64 d] w (RetVal (.tuple #[(openV L d).1, .bool (openV L d).2.1, .int .i64 (openV L d).2.2]) w) := by
  have hO : Hid (∀ (t : Nat) (l : Lf) (gd gx : Nat) (W : World), t < L.length → l = L[t]! → LamS W B x v L → Blk W gd 3 #[.int .i64 d] → Blk W gx 63 #[.pointer (some ⟨x, 0, none⟩)] → Calls Tryz.prog 91 #[.agg #[.bool false, .string (natS l.1.1), .string (natS l.1.2), .bool false, .string (natS l.2.1), .string (natS l.2.2)], .pointer (some ⟨gd, 0, none⟩), .pointer (some ⟨gx, 0, none⟩)] W (RetVal (.tuple #[.bool (open1 L l d).1, .int .i64 (open1 L l d).2]) W)) := Lib.hid (fun t l gd gx W ht hl h1 h2 h3 => lOpen1_any B x gd gx v L l d W h1 (h1.ok.ang l (by rw [hl]; exact getBang_mem ht)) h2 h3)
  have hxw := hS.lam.old
  have hOld : Hid (∀ k, k = x ∨ v.ownBlock = some k → k < w.heap.size) := Lib.hid (fun k hk => (hxw k hk).2)
  clear hxw
  obtain ⟨A, c, rfl, hA⟩ := LRow.form hS.lam.row
  have hN : Hid (∀ W, LamS W B x (.slice A L.length c) L → Calls Tryz.prog 76 #[.pointer (some ⟨x, 0, none⟩)] W (RetVal (.bool false) W)) := Lib.hid (fun W h => lnone_any x true _ W h.lam.blk)
  have hn4 : L.length ≤ 4096 := hS.len
  obtain ⟨n, hn⟩ : ∃ n, n = L.length := ⟨_, rfl⟩
  rw [← hn] at hN hO hS hA hOld hn4
  replace hn := Lib.hid hn
  obtain ⟨RV, hRV⟩ : ∃ r, r = openV L d := ⟨_, rfl⟩
  rw [← hRV]
  replace hRV := Lib.hid hRV
  have hBW : Below w.heap.size w (((w.alloc (.cells #[.pointer (some ⟨x, 0, none⟩)] 63)).alloc (.cells #[.int .i64 d] 3)).alloc (.cells #[.bool false, .string ⟨#[]⟩, .string ⟨#[]⟩, .bool false, .string ⟨#[]⟩, .string ⟨#[]⟩] 38)) := ((((Below.refl _ w).alloc (Nat.le_refl _) _).alloc (by simp) _).alloc (by simp; omega) _)
  have kk0 := (((Blk.new w 63 #[.pointer (some ⟨x, 0, none⟩)]).alloc (.cells #[.int .i64 d] 3)).alloc (.cells #[.bool false, .string ⟨#[]⟩, .string ⟨#[]⟩, .bool false, .string ⟨#[]⟩, .string ⟨#[]⟩] 38))
  have kk1 := ((Blk.new (w.alloc (.cells #[.pointer (some ⟨x, 0, none⟩)] 63)) 3 #[.int .i64 d]).alloc (.cells #[.bool false, .string ⟨#[]⟩, .string ⟨#[]⟩, .bool false, .string ⟨#[]⟩, .string ⟨#[]⟩] 38))
  simp only [World.size_alloc] at kk1
  have kk2 := (Blk.new ((w.alloc (.cells #[.pointer (some ⟨x, 0, none⟩)] 63)).alloc (.cells #[.int .i64 d] 3)) 38 #[.bool false, .string ⟨#[]⟩, .string ⟨#[]⟩, .bool false, .string ⟨#[]⟩, .string ⟨#[]⟩])
  simp only [World.size_alloc] at kk2
  have K := Lib.hid (((KeepT.one kk0).snoc kk1).snoc kk2)
  have hB := Lib.hid hBW
  clear hBW kk0 kk1 kk2
  have hL := Lib.hid (((hS.alloc (.cells #[.pointer (some ⟨x, 0, none⟩)] 63)).alloc (.cells #[.int .i64 d] 3)).alloc (.cells #[.bool false, .string ⟨#[]⟩, .string ⟨#[]⟩, .bool false, .string ⟨#[]⟩, .string ⟨#[]⟩] 38))
  have k0 := Lib.hid (K.out.at_ 0 rfl)
  have k1 := Lib.hid (K.out.at_ 1 rfl)
  have k2 := Lib.hid (K.out.at_ 2 rfl)
  have hgs : w.heap.size + 1 + 1 < ((((w.alloc (.cells #[.pointer (some ⟨x, 0, none⟩)] 63)).alloc (.cells #[.int .i64 d] 3)).alloc (.cells #[.bool false, .string ⟨#[]⟩, .string ⟨#[]⟩, .bool false, .string ⟨#[]⟩, .string ⟨#[]⟩] 38))).heap.size := by simp
  clear K hS
  go_enter Tryz.func40, Tryz.ntmps40
  go_upto_region 1 with fail
  generalize hW : (((w.alloc (.cells #[.pointer (some ⟨x, 0, none⟩)] 63)).alloc (.cells #[.int .i64 d] 3)).alloc (.cells #[.bool false, .string ⟨#[]⟩, .string ⟨#[]⟩, .bool false, .string ⟨#[]⟩, .string ⟨#[]⟩] 38)) = w1 at hB k0 k1 k2 hL hgs ⊢
  replace k0 : Hid (Blk w1 w.heap.size 63 #[.pointer (some ⟨x, 0, none⟩)]) := k0
  replace k1 : Hid (Blk w1 (w.heap.size + 1) 3 #[.int .i64 d]) := k1
  replace k2 : Hid (Blk w1 (w.heap.size + 1 + 1) 38 #[.bool false, .string ⟨#[]⟩, .string ⟨#[]⟩, .bool false, .string ⟨#[]⟩, .string ⟨#[]⟩]) := k2
  clear hW
  have p0 : w1.cell? ⟨w.heap.size, 0, none⟩ = some (.pointer (some ⟨x, 0, none⟩)) := k0.out.cell 0
  go_wp2_with fail
  refine (hN.out _ hL.out).mono ?_
  rintro en w2 ⟨rfl, hb⟩
  replace hB := Lib.hid (hB.out.trans (hb.mono hB.out.size))
  replace k0 := Lib.hid (Blk.below k0.out hb)
  replace k1 := Lib.hid (Blk.below k1.out hb)
  replace k2 := Lib.hid (Blk.below k2.out hb)
  replace hL := Lib.hid (hL.out.below hb)
  have hgs2 : w.heap.size + 1 + 1 < w2.heap.size := by have := hb.size; omega
  clear hb hN p0 hgs
  go_upto_region 5 with fail
  have k3 := Lib.hid (Blk.new w2 38 #[.bool false, .string ⟨#[]⟩, .string ⟨#[]⟩, .bool false, .string ⟨#[]⟩, .string ⟨#[]⟩])
  replace k0 := Lib.hid (Blk.alloc k0.out (.cells #[.bool false, .string ⟨#[]⟩, .string ⟨#[]⟩, .bool false, .string ⟨#[]⟩, .string ⟨#[]⟩] 38))
  replace k1 := Lib.hid (Blk.alloc k1.out (.cells #[.bool false, .string ⟨#[]⟩, .string ⟨#[]⟩, .bool false, .string ⟨#[]⟩, .string ⟨#[]⟩] 38))
  replace k2 := Lib.hid (Blk.alloc k2.out (.cells #[.bool false, .string ⟨#[]⟩, .string ⟨#[]⟩, .bool false, .string ⟨#[]⟩, .string ⟨#[]⟩] 38))
  replace hL := Lib.hid (hL.out.alloc (.cells #[.bool false, .string ⟨#[]⟩, .string ⟨#[]⟩, .bool false, .string ⟨#[]⟩, .string ⟨#[]⟩] 38))
  replace hB := Lib.hid (hB.out.alloc hB.out.size (.cells #[.bool false, .string ⟨#[]⟩, .string ⟨#[]⟩, .bool false, .string ⟨#[]⟩, .string ⟨#[]⟩] 38))
  generalize hW : w2.alloc (.cells #[.bool false, .string ⟨#[]⟩, .string ⟨#[]⟩, .bool false, .string ⟨#[]⟩, .string ⟨#[]⟩] 38) = w3 at hB k0 k1 k2 k3 hL ⊢
  generalize hg : w2.heap.size = g3 at k3 hgs2 ⊢
  clear hW hg
  have p0 : w3.cell? ⟨w.heap.size, 0, none⟩ = some (.pointer (some ⟨x, 0, none⟩)) := k0.out.cell 0
  have x1 : w3.cell? ⟨x, 1, none⟩ = some (.slice A n c) := hL.out.lam.blk.cell 1
  go_wp2_with fail
  clear p0 x1
  go_loopg [22, 5] n (fun kx s22 s5 wr => ∃ (i : Nat) (b : Bool) (q1 q2 q3 q4 : ByteArray), s22 = .int .i64 (i : Int) ∧ s5 = .bool b ∧ i ≤ n ∧ n - i ≤ kx ∧ Hid ((b, q1, q2, q3, q4) = fq ((L.take i).find? (opensL L d.toNat)) ∧ (0 < i → roundB d = true)) ∧ Hid (Blk wr w.heap.size 63 #[.pointer (some ⟨x, 0, none⟩)]) ∧ Hid (Blk wr (w.heap.size + 1) 3 #[.int .i64 d]) ∧ Hid (Blk wr (w.heap.size + 1 + 1) 38 #[.bool false, .string ⟨#[]⟩, .string ⟨#[]⟩, .bool false, .string ⟨#[]⟩, .string ⟨#[]⟩]) ∧ Hid (Blk wr g3 38 #[.bool false, .string q1, .string q2, .bool false, .string q3, .string q4]) ∧ Hid (LamS wr B x (.slice A n c) L) ∧ Hid (Below w.heap.size w wr))
  case atStart => exact ⟨0, false, ⟨#[]⟩, ⟨#[]⟩, ⟨#[]⟩, ⟨#[]⟩, rfl, rfl, Nat.zero_le _, Nat.le_refl _, Lib.hid ⟨rfl, fun h => absurd h (Nat.lt_irrefl _)⟩, k0, k1, k2, k3, hL, hB⟩
  case round =>
    clear k0 k1 k2 k3 hL hB
    obtain ⟨i, b, q1, q2, q3, q4, rfl, rfl, hin, hg, I, k0, k1, k2, k3, hL, hB⟩ := hrel
    by_cases hlt : i < n
    case pos =>
      have hil : i < L.length := by rw [← hn.out]; exact hlt
      obtain ⟨g, rfl⟩ := hA (by omega)
      obtain ⟨l, hl⟩ : ∃ m, m = L[i]! := ⟨_, rfl⟩
      have hC := LRow.cell (by have h := hL.out.lam.row; exact h) hil
      rw [← hl] at hC
      have m0 : wr.cell? ⟨g, i * 6, none⟩ = some (.bool false) := hC 0 _ rfl
      have m1 : wr.cell? ⟨g, i * 6 + 1, none⟩ = some (.string (natS l.1.1)) := hC 1 _ rfl
      have m2 : wr.cell? ⟨g, i * 6 + 2, none⟩ = some (.string (natS l.1.2)) := hC 2 _ rfl
      have m3 : wr.cell? ⟨g, i * 6 + 3, none⟩ = some (.bool false) := hC 3 _ rfl
      have m4 : wr.cell? ⟨g, i * 6 + 4, none⟩ = some (.string (natS l.2.1)) := hC 4 _ rfl
      have m5 : wr.cell? ⟨g, i * 6 + 5, none⟩ = some (.string (natS l.2.2)) := hC 5 _ rfl
      clear hC
      have hiz : (i : Int) < (n : Int) := by omega
      have hOi := Lib.hid (fun gd gx W => hO.out i l gd gx W (by rw [hn.out]; exact hil) hl)
      replace hl := Lib.hid hl
      go_upto_region 8 with fail
      have k4 := Lib.hid (Blk.new wr 38 #[.bool false, .string (natS l.1.1), .string (natS l.1.2), .bool false, .string (natS l.2.1), .string (natS l.2.2)])
      replace k0 := Lib.hid (Blk.alloc k0.out (.cells #[.bool false, .string (natS l.1.1), .string (natS l.1.2), .bool false, .string (natS l.2.1), .string (natS l.2.2)] 38))
      replace k1 := Lib.hid (Blk.alloc k1.out (.cells #[.bool false, .string (natS l.1.1), .string (natS l.1.2), .bool false, .string (natS l.2.1), .string (natS l.2.2)] 38))
      replace k2 := Lib.hid (Blk.alloc k2.out (.cells #[.bool false, .string (natS l.1.1), .string (natS l.1.2), .bool false, .string (natS l.2.1), .string (natS l.2.2)] 38))
      replace k3 := Lib.hid (Blk.alloc k3.out (.cells #[.bool false, .string (natS l.1.1), .string (natS l.1.2), .bool false, .string (natS l.2.1), .string (natS l.2.2)] 38))
      replace hL := Lib.hid (hL.out.alloc (.cells #[.bool false, .string (natS l.1.1), .string (natS l.1.2), .bool false, .string (natS l.2.1), .string (natS l.2.2)] 38))
      replace hB := Lib.hid (hB.out.alloc hB.out.size (.cells #[.bool false, .string (natS l.1.1), .string (natS l.1.2), .bool false, .string (natS l.2.1), .string (natS l.2.2)] 38))
      generalize hW : wr.alloc (.cells #[.bool false, .string (natS l.1.1), .string (natS l.1.2), .bool false, .string (natS l.2.1), .string (natS l.2.2)] 38) = wa at hB k0 k1 k2 k3 k4 hL ⊢
      generalize hgg : wr.heap.size = ga at k4 ⊢
      clear hW hgg m0 m1 m2 m3 m4 m5
      obtain ⟨r, hr⟩ : ∃ r, r = open1 L l d := ⟨_, rfl⟩
      have hcl := Lib.hid (hOi.out (w.heap.size + 1) w.heap.size wa hL.out k1.out k0.out)
      rw [← hr] at hcl
      unfold open1 at hr
      have m0 : wa.cell? ⟨ga, 0, none⟩ = some (.bool false) := k4.out.cell 0
      have m1 : wa.cell? ⟨ga, 1, none⟩ = some (.string (natS l.1.1)) := k4.out.cell 1
      have m2 : wa.cell? ⟨ga, 2, none⟩ = some (.string (natS l.1.2)) := k4.out.cell 2
      have m3 : wa.cell? ⟨ga, 3, none⟩ = some (.bool false) := k4.out.cell 3
      have m4 : wa.cell? ⟨ga, 4, none⟩ = some (.string (natS l.2.1)) := k4.out.cell 4
      have m5 : wa.cell? ⟨ga, 5, none⟩ = some (.string (natS l.2.2)) := k4.out.cell 5
      clear hOi
      cases hrb : roundB d
      case false =>
        rw [hrb] at hr
        simp only [Bool.false_eq_true, if_false] at hr
        subst hr
        have hfin : Hid (RV = (leaf0, false, 2)) := Lib.hid (by
          rw [hRV.out, openV, hrb, if_neg (by intro e; rw [e] at hil; exact absurd hil (Nat.not_lt_zero _))]; rfl)
        replace hrb := Lib.hid hrb
        clear hil
        go_wp2_with fail
        refine hcl.out.mono ?_
        rintro en w4 ⟨rfl, hb⟩
        replace hB := Lib.hid (hB.out.trans (hb.mono hB.out.size))
        replace k2 := Lib.hid (Blk.below k2.out hb)
        have f0 := k2.out.frozen 0
        have f1 := k2.out.frozen 1
        have f2 := k2.out.frozen 2
        have f3 := k2.out.frozen 3
        have f4 := k2.out.frozen 4
        have f5 := k2.out.frozen 5
        have rr0 : w4.cell? ⟨w.heap.size + 1 + 1, 0, none⟩ = some (.bool false) := k2.out.cell 0
        have rr1 : w4.cell? ⟨w.heap.size + 1 + 1, 1, none⟩ = some (.string ⟨#[]⟩) := k2.out.cell 1
        have rr2 : w4.cell? ⟨w.heap.size + 1 + 1, 2, none⟩ = some (.string ⟨#[]⟩) := k2.out.cell 2
        have rr3 : w4.cell? ⟨w.heap.size + 1 + 1, 3, none⟩ = some (.bool false) := k2.out.cell 3
        have rr4 : w4.cell? ⟨w.heap.size + 1 + 1, 4, none⟩ = some (.string ⟨#[]⟩) := k2.out.cell 4
        have rr5 : w4.cell? ⟨w.heap.size + 1 + 1, 5, none⟩ = some (.string ⟨#[]⟩) := k2.out.cell 5
        clear hb hcl k0 k1 k3 k4 hL m0 m1 m2 m3 m4 m5
        have KZ := Lib.hid (Blk.set_ (Blk.set_ (Blk.set_ (Blk.set_ (Blk.set_ (Blk.set_ k2.out 0 (.bool false)) 1 (.string ⟨#[]⟩)) 2 (.string ⟨#[]⟩)) 3 (.bool false)) 4 (.string ⟨#[]⟩)) 5 (.string ⟨#[]⟩))
        have hBZ := Lib.hid ((((((hB.out.setCell (p := ⟨w.heap.size + 1 + 1, 0, none⟩) (by simp; try omega) (.bool false)).setCell (p := ⟨w.heap.size + 1 + 1, 1, none⟩) (by simp; try omega) (.string ⟨#[]⟩)).setCell (p := ⟨w.heap.size + 1 + 1, 2, none⟩) (by simp; try omega) (.string ⟨#[]⟩)).setCell (p := ⟨w.heap.size + 1 + 1, 3, none⟩) (by simp; try omega) (.bool false)).setCell (p := ⟨w.heap.size + 1 + 1, 4, none⟩) (by simp; try omega) (.string ⟨#[]⟩)).setCell (p := ⟨w.heap.size + 1 + 1, 5, none⟩) (by simp; try omega) (.string ⟨#[]⟩))
        clear k2 hB
        go_wp2_with fail
        have z0 := KZ.out.cell 0
        have z1 := KZ.out.cell 1
        have z2 := KZ.out.cell 2
        have z3 := KZ.out.cell 3
        have z4 := KZ.out.cell 4
        have z5 := KZ.out.cell 5
        rw [hfin.out]
        refine bodyPost_ret (v := .tuple #[.agg #[.bool false, .string ⟨#[]⟩, .string ⟨#[]⟩, .bool false, .string ⟨#[]⟩, .string ⟨#[]⟩], .bool false, .int .i64 2]) (by simp [results, Tryz.results40, go_sem, z0, z1, z2, z3, z4, z5]) rfl ⟨rfl, hBZ.out⟩
      case true =>
        rw [hrb, if_pos rfl] at hr
        subst hr
        obtain ⟨b1, hb1⟩ : ∃ b, b = opensL L d.toNat l := ⟨_, rfl⟩
        rw [← hb1] at hcl
        have hstep : Hid ((L.take (i + 1)).find? (opensL L d.toNat) = (match (L.take i).find? (opensL L d.toNat) with | some y => some y | none => if b1 then some l else none)) := Lib.hid (by
          rw [List.take_add_one, List.getElem?_eq_getElem hil, ← getElem!_pos L i hil, ← hl.out, Option.toList_some, List.find?_append, hb1]
          rcases (L.take i).find? (opensL L d.toNat) with _ | y
          · cases ho : opensL L d.toNat l <;> simp [List.find?, ho]
          · rfl)
        replace hb1 := Lib.hid hb1
        replace hrb := Lib.hid hrb
        clear hil
        go_wp2_with fail
        refine hcl.out.mono ?_
        rintro en w4 ⟨rfl, hb⟩
        replace hB := Lib.hid (hB.out.trans (hb.mono hB.out.size))
        replace k0 := Lib.hid (Blk.below k0.out hb)
        replace k1 := Lib.hid (Blk.below k1.out hb)
        replace k2 := Lib.hid (Blk.below k2.out hb)
        replace k3 := Lib.hid (Blk.below k3.out hb)
        replace hL := Lib.hid (hL.out.below hb)
        replace k4 := Lib.hid (Blk.below k4.out hb)
        clear hb hcl m0 m1 m2 m3 m4 m5
        cases b1
        case false =>
          go_wp2_with fail
          go_roundg (n - (i + 1))
          case measure => omega
          case rel => exact ⟨i + 1, b, q1, q2, q3, q4, by go_num, rfl, by omega, Nat.le_refl _, Lib.hid ⟨by
            rw [hstep.out, I.out.1]
            rcases (L.take i).find? (opensL L d.toNat) with _ | y <;> rfl, fun _ => hrb.out⟩, k0, k1, k2, k3, hL, hB⟩
        case true =>
          cases b
          case true =>
            go_wp2_with fail
            go_roundg (n - (i + 1))
            case measure => omega
            case rel => exact ⟨i + 1, true, q1, q2, q3, q4, by go_num, rfl, by omega, Nat.le_refl _, Lib.hid ⟨by
              rw [hstep.out, I.out.1]
              have h := I.out.1
              rcases hf : (L.take i).find? (opensL L d.toNat) with _ | y
              · rw [hf] at h; simp [fq] at h
              · rfl, fun _ => hrb.out⟩, k0, k1, k2, k3, hL, hB⟩
          case false =>
            have m0 : w4.cell? ⟨ga, 0, none⟩ = some (.bool false) := k4.out.cell 0
            have m1 : w4.cell? ⟨ga, 1, none⟩ = some (.string (natS l.1.1)) := k4.out.cell 1
            have m2 : w4.cell? ⟨ga, 2, none⟩ = some (.string (natS l.1.2)) := k4.out.cell 2
            have m3 : w4.cell? ⟨ga, 3, none⟩ = some (.bool false) := k4.out.cell 3
            have m4 : w4.cell? ⟨ga, 4, none⟩ = some (.string (natS l.2.1)) := k4.out.cell 4
            have m5 : w4.cell? ⟨ga, 5, none⟩ = some (.string (natS l.2.2)) := k4.out.cell 5
            have f0 := k3.out.frozen 0
            have f1 := k3.out.frozen 1
            have f2 := k3.out.frozen 2
            have f3 := k3.out.frozen 3
            have f4 := k3.out.frozen 4
            have f5 := k3.out.frozen 5
            have rr0 : w4.cell? ⟨g3, 0, none⟩ = some (.bool false) := k3.out.cell 0
            have rr1 : w4.cell? ⟨g3, 1, none⟩ = some (.string q1) := k3.out.cell 1
            have rr2 : w4.cell? ⟨g3, 2, none⟩ = some (.string q2) := k3.out.cell 2
            have rr3 : w4.cell? ⟨g3, 3, none⟩ = some (.bool false) := k3.out.cell 3
            have rr4 : w4.cell? ⟨g3, 4, none⟩ = some (.string q3) := k3.out.cell 4
            have rr5 : w4.cell? ⟨g3, 5, none⟩ = some (.string q4) := k3.out.cell 5
            have hbut := But.set6 w4 g3 (.bool false) (.string (natS l.1.1)) (.string (natS l.1.2)) (.bool false) (.string (natS l.2.1)) (.string (natS l.2.2))
            have hBz := hB.out.size
            have j0 := Lib.hid (Blk.but k0.out hbut (by omega))
            have j1 := Lib.hid (Blk.but k1.out hbut (by omega))
            have j2 := Lib.hid (Blk.but k2.out hbut (by omega))
            have j3 := Lib.hid (Blk.set_ (Blk.set_ (Blk.set_ (Blk.set_ (Blk.set_ (Blk.set_ k3.out 0 (.bool false)) 1 (.string (natS l.1.1))) 2 (.string (natS l.1.2))) 3 (.bool false)) 4 (.string (natS l.2.1))) 5 (.string (natS l.2.2)))
            have jL := Lib.hid (hL.out.but hbut (fun e => by have := hOld.out x (.inl rfl); omega) (fun k hk e => by have := hOld.out k (.inr hk); omega))
            have jB := Lib.hid (hB.out.trans (hbut.toBelow' hBz (fun k hk => by omega)))
            clear k0 k1 k2 k3 k4 hL hB hbut hBz
            go_wp2_with fail
            go_roundg (n - (i + 1))
            case measure => omega
            case rel => exact ⟨i + 1, true, natS l.1.1, natS l.1.2, natS l.2.1, natS l.2.2, by go_num, rfl, by omega, Nat.le_refl _, Lib.hid ⟨by
              rw [hstep.out]
              have h := I.out.1
              rcases hf : (L.take i).find? (opensL L d.toNat) with _ | y
              · rfl
              · rw [hf] at h; simp [fq] at h, fun _ => hrb.out⟩, j0, j1, j2, j3, jL, jB⟩
    case neg =>
      obtain rfl : i = n := by omega
      have hfin : Hid (RV = (.agg #[.bool false, .string q1, .string q2, .bool false, .string q3, .string q4], b, 0)) := Lib.hid (by
        have h := I.out.1
        rw [List.take_of_length_le (by rw [hn.out]; exact Nat.le_refl _)] at h
        rw [hRV.out]
        by_cases h0 : L = []
        · rw [openV, if_pos h0]
          rw [h0] at h
          simp only [List.find?_nil, fq, Prod.mk.injEq] at h
          obtain ⟨rfl, rfl, rfl, rfl, rfl⟩ := h
          rfl
        · rw [openV_step h0 (I.out.2 (by rw [hn.out]; exact List.length_pos_iff.2 h0))]
          rcases hf : L.find? (opensL L d.toNat) with _ | y
          all_goals
            rw [hf] at h
            simp only [fq, Prod.mk.injEq] at h
            obtain ⟨rfl, rfl, rfl, rfl, rfl⟩ := h
            rfl)
      clear I hA hO
      have f0 := k2.out.frozen 0
      have f1 := k2.out.frozen 1
      have f2 := k2.out.frozen 2
      have f3 := k2.out.frozen 3
      have f4 := k2.out.frozen 4
      have f5 := k2.out.frozen 5
      have rr0 : wr.cell? ⟨w.heap.size + 1 + 1, 0, none⟩ = some (.bool false) := k2.out.cell 0
      have rr1 : wr.cell? ⟨w.heap.size + 1 + 1, 1, none⟩ = some (.string ⟨#[]⟩) := k2.out.cell 1
      have rr2 : wr.cell? ⟨w.heap.size + 1 + 1, 2, none⟩ = some (.string ⟨#[]⟩) := k2.out.cell 2
      have rr3 : wr.cell? ⟨w.heap.size + 1 + 1, 3, none⟩ = some (.bool false) := k2.out.cell 3
      have rr4 : wr.cell? ⟨w.heap.size + 1 + 1, 4, none⟩ = some (.string ⟨#[]⟩) := k2.out.cell 4
      have rr5 : wr.cell? ⟨w.heap.size + 1 + 1, 5, none⟩ = some (.string ⟨#[]⟩) := k2.out.cell 5
      have s0 : wr.cell? ⟨g3, 0, none⟩ = some (.bool false) := k3.out.cell 0
      have s1 : wr.cell? ⟨g3, 1, none⟩ = some (.string q1) := k3.out.cell 1
      have s2 : wr.cell? ⟨g3, 2, none⟩ = some (.string q2) := k3.out.cell 2
      have s3 : wr.cell? ⟨g3, 3, none⟩ = some (.bool false) := k3.out.cell 3
      have s4 : wr.cell? ⟨g3, 4, none⟩ = some (.string q3) := k3.out.cell 4
      have s5 : wr.cell? ⟨g3, 5, none⟩ = some (.string q4) := k3.out.cell 5
      have KZ := Lib.hid (Blk.set_ (Blk.set_ (Blk.set_ (Blk.set_ (Blk.set_ (Blk.set_ k2.out 0 (.bool false)) 1 (.string q1)) 2 (.string q2)) 3 (.bool false)) 4 (.string q3)) 5 (.string q4))
      have hBZ := Lib.hid ((((((hB.out.setCell (p := ⟨w.heap.size + 1 + 1, 0, none⟩) (by simp; try omega) (.bool false)).setCell (p := ⟨w.heap.size + 1 + 1, 1, none⟩) (by simp; try omega) (.string q1)).setCell (p := ⟨w.heap.size + 1 + 1, 2, none⟩) (by simp; try omega) (.string q2)).setCell (p := ⟨w.heap.size + 1 + 1, 3, none⟩) (by simp; try omega) (.bool false)).setCell (p := ⟨w.heap.size + 1 + 1, 4, none⟩) (by simp; try omega) (.string q3)).setCell (p := ⟨w.heap.size + 1 + 1, 5, none⟩) (by simp; try omega) (.string q4))
      clear k0 k1 k2 k3 hL hB
      go_wp2_with fail
      have z0 := KZ.out.cell 0
      have z1 := KZ.out.cell 1
      have z2 := KZ.out.cell 2
      have z3 := KZ.out.cell 3
      have z4 := KZ.out.cell 4
      have z5 := KZ.out.cell 5
      rw [hfin.out]
      refine bodyPost_ret (v := .tuple #[.agg #[.bool false, .string q1, .string q2, .bool false, .string q3, .string q4], .bool b, .int .i64 0]) (by simp [results, Tryz.results40, go_sem, z0, z1, z2, z3, z4, z5]) rfl ⟨rfl, hBZ.out⟩
open Go.RowKit Go.Sort
def closeS (d : Int) (k : Nat) (L : List Lf) : List Lf × Int := if L = [] then (L, 0) else if roundB d then closeL d.toNat k L else (L, 2)
def closeR (L : List Lf) (d : Int) : List Lf × Int := if (closeS d 4097 L).2 = 0 then closeS d 4097 L else (L, (closeS d 4097 L).2)
theorem openV_cases (L : List Lf) (d : Int) (hL : ∀ l, l ∈ L → AngL l) : (openV L d = (leaf0, false, 2) ∧ L ≠ [] ∧ roundB d = false) ∨ (openV L d = (leaf0, false, 0) ∧ (L = [] ∨ (L ≠ [] ∧ roundB d = true ∧ openL L d.toNat = none))) ∨
    (∃ l m, openV L d = (leafV l, true, 0) ∧ L ≠ [] ∧ roundB d = true ∧ openL L d.toNat = some l ∧ turnP d.toNat l = some m ∧ m ∉ L ∧ AngL l ∧ Lfp m ∧ turnLf l d = (leafV m, true, 0)) := by
  by_cases h0 : L = []
  · exact .inr (.inl ⟨by rw [openV, if_pos h0], .inl h0⟩)
  cases h1 : roundB d
  · exact .inl ⟨by rw [openV, if_neg h0, h1]; rfl, h0, rfl⟩
  rcases ho : openL L d.toNat with _ | l
  · exact .inr (.inl ⟨by rw [openV, if_neg h0, h1, if_pos rfl, ho], .inr ⟨h0, rfl, rfl⟩⟩)
  · obtain ⟨k1, m, k2, k3⟩ := openL_some ho
    refine .inr (.inr ⟨l, m, by rw [openV, if_neg h0, h1, if_pos rfl, ho], h0, rfl, rfl, k2, k3, hL l k1, turnP_lfp (hL l k1) k2, ?_⟩)
    rw [turnLf_turnP h1, k2]
theorem closeS_stop {d : Int} {k : Nat} {L : List Lf} (h : L = [] ∨ (L ≠ [] ∧ roundB d = true ∧ openL L d.toNat = none)) : closeS d k L = (L, 0) := by
  unfold closeS
  rcases h with h | ⟨h0, h1, h2⟩
  · rw [if_pos h]
  · rw [if_neg h0, h1, if_pos rfl, closeL_done h2]
theorem closeS_step {d : Int} {k : Nat} {L : List Lf} {l m : Lf} (h0 : L ≠ []) (h1 : roundB d = true) (h2 : openL L d.toNat = some l) (h3 : turnP d.toNat l = some m) :
    closeS d (k + 1) L = if (addL L m).2 = 0 then closeS d k (addL L m).1 else (L, (addL L m).2) := by
  unfold closeS
  rw [if_neg h0, h1, if_pos rfl, closeL, h2]
  simp only [h3]
  split
  · rw [if_neg (fun e => by have := addL_has (L := L) (l := m) ‹_›; rw [e] at this; cases this)]; simp
  · rfl
section
variable {A B : World} {base x : Nat} {v : Value} {L : List Lf}
theorem LamS.take {y : Nat} {vy : Value} {M : List Lf} {base2 : Nat} (h : LamS A base x v L) (k : LamS A base2 y vy M) (hb : base ≤ base2) : LamS (A.setCell ⟨x, 1, none⟩ vy) base x vy M :=
  ⟨⟨Blk.set_ h.lam.blk 1 vy, by
    have h1 := row_monoL k.lam.row hb
    have h2 := LRow.set (x := x) (j := 1) (u := vy) h1 h.lam.blk
    exact h2, h.lam.base⟩, k.ok, k.len⟩
end
set_option maxRecDepth 100000 in
set_option maxHeartbeats 4000000 in
theorem lClose_any (B x : Nat) (v : Value) (L : List Lf) (d : Int) (w : World) (hS : LamS w B x v L) :
    Calls Tryz.prog 39 #[.pointer (some ⟨x, 0, none⟩), .int .i64 d] w (fun e w' => e = .returned (.int .i64 (closeR L d).2) ∧ ∃ v', LamS w' B x v' (closeR L d).1 ∧ But (fun k => k = x) w w') := by
  have hN := Lib.hid (fun W (h : LamS W B x v L) => lnone_any x true _ W h.lam.blk)
  have hCo := Lib.hid (fun W (h : LamS W B x v L) => lCopy_any B x v L W h)
  have hOp := Lib.hid (fun (b y : Nat) (u : Value) (M : List Lf) W (h : LamS W b y u M) => lOpen_any b y u M d W h)
  have hTu : Hid (∀ (l m : Lf) W, AngL l → turnLf l d = (leafV m, true, 0) → Calls Tryz.prog 69 #[.agg #[.bool false, .string (natS l.1.1), .string (natS l.1.2), .bool false, .string (natS l.2.1), .string (natS l.2.2)], .int .i64 d] W (RetVal (.tuple #[.agg #[.bool false, .string (natS m.1.1), .string (natS m.1.2), .bool false, .string (natS m.2.1), .string (natS m.2.2)], .bool true, .int .i64 0]) W)) := Lib.hid (fun l m W hl e => by
    have h := lturned_any l d W hl
    rw [e] at h
    exact h)
  have hAd := Lib.hid (fun (b y : Nat) (u : Value) (M : List Lf) (m : Lf) W (h : LamS W b y u M) (hm : Lfp m) => lAdd_leaf b y u M m W h hm)
  have hS0 := Lib.hid hS
  have hxo := Lib.hid hS.lam.old
  have hB := Lib.hid (Below.refl w.heap.size w)
  clear hS
  go_enter Tryz.func39, Tryz.ntmps39
  go_wp2_with fail
  refine (hN.out _ hS0.out).mono ?_
  rintro en w2 ⟨rfl, hb⟩
  replace hB := Lib.hid (hB.out.trans (hb.mono hB.out.size))
  clear hb hN
  go_wp2_with fail
  refine (hCo.out _ (hS0.out.below hB.out)).mono ?_
  rintro en w3 ⟨y, vy, rfl, hy, hb⟩
  replace hy : Hid (LamS w3 w.heap.size y vy L) := Lib.hid ⟨⟨hy.lam.blk, row_monoL hy.lam.row hB.out.size, Nat.le_trans hB.out.size hy.lam.base⟩, hy.ok, hy.len⟩
  replace hB := Lib.hid (hB.out.trans (hb.mono hB.out.size))
  clear hb hCo
  go_wp2_with fail
  go_loopg [12] 4098 (fun kx s12 wr => ∃ (Lc : List Lf) (vc : Value) (k : Nat) (v12 : Value), v12 = s12 ∧ 4097 - Lc.length ≤ kx ∧ Hid (closeS d 4097 L = closeS d k Lc ∧ 4097 ≤ Lc.length + k ∧ Lc.length ≤ 4096) ∧ Hid (LamS wr w.heap.size y vc Lc) ∧ Hid (Below w.heap.size w wr))
  case atStart => exact ⟨L, vy, 4097, _, rfl, by omega, Lib.hid ⟨rfl, by omega, hy.out.len⟩, hy, hB⟩
  case round =>
    clear hy hB vy
    obtain ⟨Lc, vc, k, v12, rfl, hg, I, hy, hB⟩ := hrel
    have hcs := openV_cases Lc d hy.out.ok.ang
    obtain ⟨OV, hOV⟩ : ∃ r, r = openV Lc d := ⟨_, rfl⟩
    have hOc := Lib.hid (hOp.out _ _ _ _ _ hy.out)
    rw [← hOV] at hcs hOc
    clear hOV
    rcases hcs with ⟨rfl, h0, h1⟩ | ⟨rfl, h0⟩ | ⟨l, m, rfl, h0, h1, h2, h3, h4, h5, h6, h7⟩
    case inl =>
      have hfin : Hid (closeR L d = (L, 2)) := Lib.hid (by
        have e : closeS d 4097 L = (Lc, 2) := by rw [I.out.1, closeS, if_neg h0, h1]; rfl
        rw [closeR, e]; rfl)
      clear h0 h1
      go_wp2_with fail
      refine hOc.out.mono ?_
      rintro en w4 ⟨rfl, hb⟩
      replace hB := Lib.hid (hB.out.trans (hb.mono hB.out.size))
      clear hb hOc
      simp only [leaf0]
      go_wp2_with fail
      go_ret
      refine ⟨by rw [hfin.out]; rfl, v, ?_⟩
      rw [hfin.out]
      have hB2 := hB.out.alloc hB.out.size (.cells #[.bool false, .string ⟨#[]⟩, .string ⟨#[]⟩, .bool false, .string ⟨#[]⟩, .string ⟨#[]⟩] 38)
      exact ⟨hS0.out.below hB2, But.of_below hB2⟩
    case inr.inl =>
      have hfin : Hid (closeR L d = (Lc, 0)) := Lib.hid (by
        have e : closeS d 4097 L = (Lc, 0) := by rw [I.out.1, closeS_stop h0]
        rw [closeR, e]; rfl)
      clear h0
      go_wp2_with fail
      refine hOc.out.mono ?_
      rintro en w4 ⟨rfl, hb⟩
      replace hB := Lib.hid (hB.out.trans (hb.mono hB.out.size))
      replace hy := Lib.hid (hy.out.below hb)
      clear hb hOc
      simp only [leaf0]
      go_upto_region 7 with fail
      replace hB := Lib.hid (hB.out.alloc hB.out.size (.cells #[.bool false, .string ⟨#[]⟩, .string ⟨#[]⟩, .bool false, .string ⟨#[]⟩, .string ⟨#[]⟩] 38))
      replace hy := Lib.hid (hy.out.alloc (.cells #[.bool false, .string ⟨#[]⟩, .string ⟨#[]⟩, .bool false, .string ⟨#[]⟩, .string ⟨#[]⟩] 38))
      generalize hW : w4.alloc (.cells #[.bool false, .string ⟨#[]⟩, .string ⟨#[]⟩, .bool false, .string ⟨#[]⟩, .string ⟨#[]⟩] 38) = w5 at hB hy ⊢
      generalize hgg : w4.heap.size = g4
      clear hW hgg
      obtain ⟨Ac, cc, hvc, -⟩ := LRow.form hy.out.lam.row
      subst hvc
      have hx5 := Lib.hid (hS0.out.below hB.out)
      have y1 : w5.cell? ⟨y, 1, none⟩ = some (.slice Ac Lc.length cc) := hy.out.lam.blk.cell 1
      have z1 : w5.cell? ⟨x, 1, none⟩ = some v := hx5.out.lam.blk.cell 1
      have zf := hx5.out.lam.blk.frozen 1
      go_wp2_with fail
      go_ret
      refine ⟨by rw [hfin.out]; rfl, .slice Ac Lc.length cc, ?_⟩
      rw [hfin.out]
      refine ⟨LamS.take hx5.out hy.out hS0.out.base, ?_⟩
      have q : But (fun k => k = x) w w5 := But.of_below hB.out
      exact q.setCell (p := ⟨x, 1, none⟩) (Or.inl (rfl : x = x)) _
    case inr.inr =>
      have hk : Hid (k = k - 1 + 1) := Lib.hid (by have := I.out; omega)
      have hst : Hid (closeS d 4097 L = if (addL Lc m).2 = 0 then closeS d (k - 1) (addL Lc m).1 else (Lc, (addL Lc m).2)) := Lib.hid (by rw [I.out.1, hk.out, Nat.add_sub_cancel, closeS_step h0 h1 h2 h3])
      have hgr : Hid ((addL Lc m).2 = 0 → (addL Lc m).1.length = Lc.length + 1 ∧ (addL Lc m).1.length ≤ 4096) := Lib.hid (fun h => addL_grow h4 h)
      have hT := Lib.hid (fun W => hTu.out l m W h5 h7)
      have h6 := Lib.hid h6
      clear h0 h1 h2 h3 h4 h5 h7
      go_wp2_with fail
      refine hOc.out.mono ?_
      rintro en w4 ⟨rfl, hb⟩
      replace hB := Lib.hid (hB.out.trans (hb.mono hB.out.size))
      replace hy := Lib.hid (hy.out.below hb)
      clear hb hOc
      simp only [leafV, leafE]
      go_upto_region 5 with fail
      have k1 := Lib.hid (Blk.new w4 38 #[.bool false, .string (natS l.1.1), .string (natS l.1.2), .bool false, .string (natS l.2.1), .string (natS l.2.2)])
      replace hB := Lib.hid (hB.out.alloc hB.out.size (.cells #[.bool false, .string (natS l.1.1), .string (natS l.1.2), .bool false, .string (natS l.2.1), .string (natS l.2.2)] 38))
      replace hy := Lib.hid (hy.out.alloc (.cells #[.bool false, .string (natS l.1.1), .string (natS l.1.2), .bool false, .string (natS l.2.1), .string (natS l.2.2)] 38))
      generalize hW : w4.alloc (.cells #[.bool false, .string (natS l.1.1), .string (natS l.1.2), .bool false, .string (natS l.2.1), .string (natS l.2.2)] 38) = w5 at hB hy k1 ⊢
      generalize hgg : w4.heap.size = g4 at k1 ⊢
      clear hW hgg
      have m0 : w5.cell? ⟨g4, 0, none⟩ = some (.bool false) := k1.out.cell 0
      have m1 : w5.cell? ⟨g4, 1, none⟩ = some (.string (natS l.1.1)) := k1.out.cell 1
      have m2 : w5.cell? ⟨g4, 2, none⟩ = some (.string (natS l.1.2)) := k1.out.cell 2
      have m3 : w5.cell? ⟨g4, 3, none⟩ = some (.bool false) := k1.out.cell 3
      have m4 : w5.cell? ⟨g4, 4, none⟩ = some (.string (natS l.2.1)) := k1.out.cell 4
      have m5 : w5.cell? ⟨g4, 5, none⟩ = some (.string (natS l.2.2)) := k1.out.cell 5
      go_wp2_with fail
      refine (hT.out _).mono ?_
      rintro en w6 ⟨rfl, hb⟩
      replace hB := Lib.hid (hB.out.trans (hb.mono hB.out.size))
      replace hy := Lib.hid (hy.out.below hb)
      clear hb hT k1 m0 m1 m2 m3 m4 m5
      go_upto_region 9 with fail
      have k2 := Lib.hid (Blk.new w6 38 #[.bool false, .string (natS m.1.1), .string (natS m.1.2), .bool false, .string (natS m.2.1), .string (natS m.2.2)])
      replace hB := Lib.hid (hB.out.alloc hB.out.size (.cells #[.bool false, .string (natS m.1.1), .string (natS m.1.2), .bool false, .string (natS m.2.1), .string (natS m.2.2)] 38))
      replace hy := Lib.hid (hy.out.alloc (.cells #[.bool false, .string (natS m.1.1), .string (natS m.1.2), .bool false, .string (natS m.2.1), .string (natS m.2.2)] 38))
      generalize hW : w6.alloc (.cells #[.bool false, .string (natS m.1.1), .string (natS m.1.2), .bool false, .string (natS m.2.1), .string (natS m.2.2)] 38) = w7 at hB hy k2 ⊢
      generalize hgg : w6.heap.size = g6 at k2 ⊢
      clear hW hgg
      have m0 : w7.cell? ⟨g6, 0, none⟩ = some (.bool false) := k2.out.cell 0
      have m1 : w7.cell? ⟨g6, 1, none⟩ = some (.string (natS m.1.1)) := k2.out.cell 1
      have m2 : w7.cell? ⟨g6, 2, none⟩ = some (.string (natS m.1.2)) := k2.out.cell 2
      have m3 : w7.cell? ⟨g6, 3, none⟩ = some (.bool false) := k2.out.cell 3
      have m4 : w7.cell? ⟨g6, 4, none⟩ = some (.string (natS m.2.1)) := k2.out.cell 4
      have m5 : w7.cell? ⟨g6, 5, none⟩ = some (.string (natS m.2.2)) := k2.out.cell 5
      obtain ⟨EE, hE⟩ : ∃ e, e = (addL Lc m).2 := ⟨_, rfl⟩
      have hAc := Lib.hid (hAd.out _ _ _ _ m _ hy.out h6.out)
      rw [← hE] at hAc
      have hyo := Lib.hid hy.out.lam.old
      replace hE := Lib.hid hE
      go_wp2_with fail
      refine hAc.out.mono ?_
      rintro en w8 ⟨rfl, vd, hyd, hbut⟩
      replace hB := Lib.hid (hB.out.trans (hbut.toBelow hB.out.size (fun k hk e => by have := (hyo.out k e).1; omega)))
      replace hyd := Lib.hid hyd
      clear hbut hAc k2 m0 m1 m2 m3 m4 m5 hy
      by_cases he0 : EE = 0
      case pos =>
        subst he0
        have hgr2 := hgr.out hE.out.symm
        go_wp2_with fail
        go_roundg (4097 - (addL Lc m).1.length)
        case measure => omega
        case rel => exact ⟨_, vd, k - 1, _, rfl, Nat.le_refl _, Lib.hid ⟨by rw [hst.out, if_pos hE.out.symm], by have := I.out; omega, hgr2.2⟩, hyd, hB⟩
      case neg =>
        have hez : (EE != 0) = true := by simpa using he0
        have hfin : Hid (closeR L d = (L, EE)) := Lib.hid (by
          have e : closeS d 4097 L = (Lc, EE) := by rw [hst.out, if_neg (by rw [← hE.out]; exact he0), ← hE.out]
          rw [closeR, e, if_neg he0])
        replace he0 := Lib.hid he0
        go_wp2_with fail
        go_ret
        refine ⟨by rw [hfin.out]; rfl, v, ?_⟩
        rw [hfin.out]
        exact ⟨hS0.out.below hB.out, But.of_below hB.out⟩
end Go.Proofs.YtoaggmegmgdgbaaGreat
