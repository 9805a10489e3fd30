/- filigreelaw23.LaminTurned: the walk. -/
import Derived.Test.YtoaggmegmgdgbaaGreatLamO
import Derived.Test.YtoaggmegmgdgbaaGreatLamR
import Derived.Test.YtoaggmegmgdgbaaGreatLeav
import Derived.Test.YtoaggmegmgdgbaaGreatLamL
namespace Go.Proofs.YtoaggmegmgdgbaaGreat
open Go.RowKit Go.Sort
attribute [local go_sem] Oper.semAt_some

theorem blk_neT {w : World} {g g' : Nat} {T T' : TypeId} {cs cs' : Array Value} (h : Blk w g T cs) (k : Blk w g' T' cs') (hT : T ≠ T') : g ≠ g' := fun e => by
  subst e
  have h1 := (show w.heap[g]? = _ from h).symm.trans k
  injection h1 with h1
  injection h1 with h1 h2 h3
  exact hT h2
theorem chkLf_lfp {l : Lf} (h : Lfp l) : chkLf false (natS l.1.1) (natS l.1.2) false (natS l.2.1) (natS l.2.2) = 0 := by
  rw [chkLf_leaf l h.1, if_neg (by have := h.2; omega), if_neg (by have := h.2; omega)]
theorem TurnLf_lfp {l : Lf} (h : Lfp l) (d : Int) : TurnLf false (natS l.1.1) (natS l.1.2) false (natS l.2.1) (natS l.2.2) d = turnLf l d := by
  unfold TurnLf
  rw [if_pos (chkLf_lfp h), be_natS, be_natS, be_natS, be_natS]
theorem Ang.sz {p : Nat × Nat} (h : Ang p) : (natS p.1).size ≤ 9223372036854775807 ∧ (natS p.2).size ≤ 9223372036854775807 := okA_size h.ok
theorem lTurn_leaf (l : Lf) (d : Int) (w : World) (hl : Lfp l) :
    Calls Tryz.prog 20 #[.agg #[.bool false, .string (natS l.1.1), .string (natS l.1.2), .bool false, .string (natS l.2.1), .string (natS l.2.2)], .int .i64 d] w (RetVal (.tuple #[(turnLf l d).1, .bool (turnLf l d).2.1, .int .i64 (turnLf l d).2.2]) w) := by
  have h := lTurn_any false (natS l.1.1) (natS l.1.2) false (natS l.2.1) (natS l.2.2) d w hl.1.1.sz.1 hl.1.1.sz.2 hl.1.2.sz.1 hl.1.2.sz.2
  rw [TurnLf_lfp hl] at h
  exact h
theorem lHas_leaf (B x : Nat) (v : Value) (L : List Lf) (l : Lf) (w : World) (hS : LamS w B x v L) (hl : Lfp l) :
    Calls Tryz.prog 42 #[.pointer (some ⟨x, 0, none⟩), .agg #[.bool false, .string (natS l.1.1), .string (natS l.1.2), .bool false, .string (natS l.2.1), .string (natS l.2.2)]] w (RetVal (.bool (decide (l ∈ L))) w) := by
  have h := lHas_all B x v L false (natS l.1.1) (natS l.1.2) false (natS l.2.1) (natS l.2.2) w hS hl.1.1.sz.1 hl.1.1.sz.2 hl.1.2.sz.1 hl.1.2.sz.2
  have e : hasR L false (natS l.1.1) (natS l.1.2) false (natS l.2.1) (natS l.2.2) = decide (l ∈ L) := by
    unfold hasR
    rw [be_natS, be_natS, be_natS, be_natS]
    exact decide_eq_decide.2 ⟨fun h => h.2, fun h => ⟨chkLf_lfp hl, h⟩⟩
  rw [e] at h
  exact h
/-- What is closed stays so, and each turned leaf is there. -/
theorem closed_law {L M : List Lf} {d : Int} (hL : LOk L) (hn : L.length ≤ 4096) (h : closeR L d = (M, 0)) :
    L.length ≤ M.length ∧ openV M d = (leaf0, false, 0) ∧ closeR M d = (M, 0) ∧ ∀ l, l ∈ M → Lfp l ∧ (turnLf l d = (leaf0, false, 0) ∨ ∃ m, turnLf l d = (leafV m, true, 0) ∧ Lfp m ∧ m ∈ M) := by
  have h1 : closeS d 4097 L = (M, 0) := by
    unfold closeR at h
    split at h
    · exact h
    · rename_i h2
      injection h with h3 h4
      exact absurd h4 h2
  unfold closeS at h1
  by_cases h0 : L = []
  · rw [if_pos h0] at h1
    injection h1 with h1 _
    subst h1
    subst h0
    exact ⟨Nat.le_refl _, rfl, rfl, fun l hl => by cases hl⟩
  rw [if_neg h0] at h1
  cases hr : roundB d
  · rw [hr] at h1; simp at h1
  rw [hr, if_pos rfl] at h1
  obtain ⟨k1, k2, k3, k4, k5⟩ := closeL_ok d.toNat 4097 hL hn (by omega)
  rw [h1] at k1 k2 k3 k4 k5
  replace k5 : openL M d.toNat = none := k5 rfl
  simp only at k1 k2 k3 k4
  have hM0 : M ≠ [] := by
    intro e
    rw [e] at k3
    exact h0 (List.eq_nil_of_length_eq_zero (by simpa using k3))
  have ho := k5
  refine ⟨k3, ?_, ?_, fun l hl => ⟨k1.lf l hl, ?_⟩⟩
  · rw [openV, if_neg hM0, hr, if_pos rfl, ho]
  · have e : closeS d 4097 M = (M, 0) := closeS_stop (.inr ⟨hM0, hr, ho⟩)
    rw [closeR, e]; rfl
  · rw [turnLf_turnP hr]
    rcases hm : turnP d.toNat l with _ | m
    · exact .inl rfl
    · exact .inr ⟨m, rfl, turnP_lfp (k1.lf l hl).1 hm, openL_none ho hl hm⟩
theorem closeR_len {L : List Lf} {d : Int} (h : (closeR L d).2 ≠ 0) : (closeR L d).1 = L := by
  unfold closeR at *
  split at h
  · rename_i h1; exact absurd h1 h
  · rename_i h1; rw [if_neg h1]
theorem mem_of_prefix {α : Type} {pre xs : List α} {x : α} (h : pre ++ [x] <+: xs) : x ∈ xs := h.subset (by simp)

set_option maxRecDepth 100000 in
set_option maxHeartbeats 8000000 in
/-- filigreelaw23.LaminTurned: it is true. -/
theorem laminTurned_any (v : Value) (Ls : List RawL) (d : Int) (w : World) (hv : RdK 6 encR w v Ls) (hz : ∀ r, r ∈ Ls → szR r) : Calls Tryz.prog 6 #[v, .int .i64 d] w (RetVal (.bool true) w) := by
  have hBW : Below w.heap.size w ((w.alloc (.cells #[.int .i64 d] 3)).alloc (.cells #[.bool false] 4)) := ((Below.refl _ w).alloc (Nat.le_refl _) _).alloc (by simp) _
  have hD0 := (Blk.new w 3 #[.int .i64 d]).alloc (.cells #[.bool false] 4)
  have hR0 := Blk.new (w.alloc (.cells #[.int .i64 d] 3)) 4 #[.bool false]
  rw [World.size_alloc] at hR0
  have hD := Lib.hid hD0
  have hR := Lib.hid hR0
  have hB := Lib.hid hBW
  clear hBW hD0 hR0
  have cAw := Lib.hid (fun W => lawake_any W)
  have cMade := Lib.hid (fun W (hb : Below w.heap.size w W) => lmade_any v Ls W (hv.below hb) hz)
  have hRead := Lib.hid hv
  obtain ⟨A, c, rfl, -⟩ := hv
  obtain ⟨n, hn⟩ : ∃ n, n = Ls.length := ⟨_, rfl⟩
  rw [← hn] at cMade hRead ⊢
  clear hRead hz
  refine callsIn_wide.1 (callsIn_of_wp_marks (n := 0) Tryz.func6 rfl trivial ?_ rfl)
  simp only [Tryz.ntmps6, List.size_toArray, List.length_cons, List.length_nil, Nat.reduceAdd, Nat.reduceSub, Array.replicate_succ, Array.replicate_zero, List.push_toArray, List.append_toArray, List.nil_append, List.cons_append]
  refine wpIn_wide.2 ?_
  go_upto_region 1 with fail
  generalize hW : ((w.alloc (.cells #[.int .i64 d] 3)).alloc (.cells #[.bool false] 4)) = w1 at hD hR hB ⊢
  clear hW
  replace hD : Hid (Blk w1 w.heap.size 3 #[.int .i64 d]) := hD
  replace hR : Hid (Blk w1 (w.heap.size + 1) 4 #[.bool false]) := hR
  by_cases h30 : 30 < n
  case pos =>
    have h30z : (30 : Int) < (n : Int) := by omega
    replace hn := Lib.hid hn
    go_wp2_with fail
    refine (cAw.out _).mono ?_
    rintro en w2 ⟨rfl, hb⟩
    replace hB := Lib.hid (hB.out.trans (hb.mono hB.out.size))
    replace hR := Lib.hid (Blk.below hR.out hb)
    clear hb
    have r0 : w2.cell? ⟨w.heap.size + 1, 0, none⟩ = some (.bool false) := hR.out.cell 0
    have r1 := hR.out.frozen 0
    have kr2 := Lib.hid (hR.out.set_ 0 (.bool true))
    have hB2 := Lib.hid (hB.out.setCell (p := ⟨w.heap.size + 1, 0, none⟩) (by simp) (.bool true))
    clear hR hB
    go_wp2_with fail
    have q0 := kr2.out.cell 0
    refine leaves_none (P := Tryz.prog) (fn := Tryz.f6) (v := .bool true) (by simp [results, Tryz.results6, go_sem, q0]) ⟨rfl, hB2.out⟩
  case neg =>
    have h30z : ¬ (30 : Int) < (n : Int) := by omega
    have cMd := Lib.hid (cMade.out w1 hB.out (by omega))
    have hw0 := Lib.hid hB.out.size
    have hlen := Lib.hid (Nat.le_trans (madeR_len Ls) (by omega : Ls.length ≤ 4096))
    obtain ⟨L0, hL0⟩ : ∃ L, L = madeR Ls := ⟨_, rfl⟩
    rw [← hL0] at cMd hlen
    replace hn := Lib.hid hn
    clear cMade hL0 h30
    go_wp2_with fail
    refine cMd.out.mono ?_
    rintro en w2 ⟨x, vx, rfl, hS, hb⟩
    replace hB := Lib.hid (hB.out.trans (hb.mono hB.out.size))
    replace hR := Lib.hid (Blk.below hR.out hb)
    replace hD := Lib.hid (Blk.below hD.out hb)
    
    have hw1 : Hid (w.heap.size ≤ w1.heap.size) := Lib.hid hw0.out
    clear hb cMd
    go_upto_region 4 with fail
    have hX := Lib.hid (Blk.new w2 63 #[.pointer (some ⟨x, 0, none⟩)])
    replace hS := Lib.hid (hS.alloc (.cells #[.pointer (some ⟨x, 0, none⟩)] 63))
    replace hD := Lib.hid (Blk.alloc hD.out (.cells #[.pointer (some ⟨x, 0, none⟩)] 63))
    replace hR := Lib.hid (Blk.alloc hR.out (.cells #[.pointer (some ⟨x, 0, none⟩)] 63))
    replace hB := Lib.hid (hB.out.alloc hB.out.size (.cells #[.pointer (some ⟨x, 0, none⟩)] 63))
    generalize hW : w2.alloc (.cells #[.pointer (some ⟨x, 0, none⟩)] 63) = w3 at hX hS hD hR hB ⊢
    generalize hg : w2.heap.size = gx at hX ⊢
    clear hW hg
    have x0 : w3.cell? ⟨gx, 0, none⟩ = some (.pointer (some ⟨x, 0, none⟩)) := hX.out.cell 0
    have hx3 := Lib.hid hS.out.lam.blk.lt
    have hok := Lib.hid hS.out.ok
    go_wp2_with fail
    refine (lCopy_any w1.heap.size x vx L0 _ hS.out).mono ?_
    rintro en w4 ⟨y, vy, rfl, hSy, hb⟩
    replace hB := Lib.hid (hB.out.trans (hb.mono hB.out.size))
    replace hR := Lib.hid (Blk.below hR.out hb)
    replace hD := Lib.hid (Blk.below hD.out hb)
    replace hX := Lib.hid (Blk.below hX.out hb)
    replace hS := Lib.hid (hS.out.below hb)
    replace hSy := Lib.hid hSy
    clear hb x0
    have x0 : w4.cell? ⟨gx, 0, none⟩ = some (.pointer (some ⟨x, 0, none⟩)) := hX.out.cell 0
    have d0 : w4.cell? ⟨w.heap.size, 0, none⟩ = some (.int .i64 d) := hD.out.cell 0
    obtain ⟨C, hC⟩ : ∃ C, C = (closeR L0 d).2 := ⟨_, rfl⟩
    have hCl := Lib.hid (lClose_any w1.heap.size x vx L0 d w4 hS.out)
    rw [← hC] at hCl
    have hne : Hid (gx ≠ x ∧ y ≠ x ∧ (∀ k, vy.ownBlock = some k → ¬ k = x) ∧ w.heap.size ≠ x ∧ w.heap.size + 1 ≠ x) := Lib.hid ⟨blk_neT hX.out hS.out.lam.blk (by decide), by have := hSy.out.lam.base; have := hx3.out; omega, fun k hk => by have := (hSy.out.lam.old k (.inr hk)).1; have := hx3.out; omega, blk_neT hD.out hS.out.lam.blk (by decide), blk_neT hR.out hS.out.lam.blk (by decide)⟩
    have hxB : Hid (w.heap.size ≤ x) := Lib.hid (Nat.le_trans hw1.out hS.out.lam.base)
    go_wp2_with fail
    refine hCl.out.mono ?_
    rintro en w5 ⟨rfl, vx2, hS2, hbut⟩
    replace hB := Lib.hid (hB.out.trans (hbut.toBelow hB.out.size (fun k hk e => by have := hxB.out; omega)))
    replace hR := Lib.hid (Blk.but hR.out hbut hne.out.2.2.2.2)
    replace hD := Lib.hid (Blk.but hD.out hbut hne.out.2.2.2.1)
    replace hX := Lib.hid (Blk.but hX.out hbut hne.out.1)
    replace hSy := Lib.hid (LamS.but hSy.out hbut hne.out.2.1 hne.out.2.2.1)
    clear hbut hCl x0 d0 hS
    have x0 : w5.cell? ⟨gx, 0, none⟩ = some (.pointer (some ⟨x, 0, none⟩)) := hX.out.cell 0
    by_cases hC0 : C = 0
    case neg =>
      have hC1 : (C != 0) = true := by simpa using hC0
      have hS3 : Hid (LamS w5 w1.heap.size x vx2 L0) := Lib.hid (by rw [closeR_len (by rw [← hC]; exact hC0)] at hS2; exact hS2)
      have cLx := Lib.hid (fun W h => lLenS w1.heap.size x vx2 L0 W h)
      have cLy := Lib.hid (fun W h => lLenS w3.heap.size y vy L0 W h)
      obtain ⟨k, hk⟩ : ∃ k, k = L0.length := ⟨_, rfl⟩
      rw [← hk] at cLx cLy
      clear hC0 hC hk hS2
      go_wp2_with fail
      refine (cLx.out _ hS3.out).mono ?_
      rintro en w6 ⟨rfl, hb⟩
      replace hB := Lib.hid (hB.out.trans (hb.mono hB.out.size))
      replace hR := Lib.hid (Blk.below hR.out hb)
      replace hSy := Lib.hid (hSy.out.below hb)
      clear hb x0 cLx hS3
      go_wp2_with fail
      refine (cLy.out _ hSy.out).mono ?_
      rintro en w7 ⟨rfl, hb⟩
      replace hB := Lib.hid (hB.out.trans (hb.mono hB.out.size))
      replace hR := Lib.hid (Blk.below hR.out hb)
      clear hb cLy hSy hX hD
      go_wp2_with fail
      refine (cAw.out _).mono ?_
      rintro en w8 ⟨rfl, hb⟩
      replace hB := Lib.hid (hB.out.trans (hb.mono hB.out.size))
      replace hR := Lib.hid (Blk.below hR.out hb)
      clear hb
      have r0 : w8.cell? ⟨w.heap.size + 1, 0, none⟩ = some (.bool false) := hR.out.cell 0
      have r1 := hR.out.frozen 0
      have kr2 := Lib.hid (hR.out.set_ 0 (.bool true))
      have hB2 := Lib.hid (hB.out.setCell (p := ⟨w.heap.size + 1, 0, none⟩) (by simp) (.bool true))
      clear hR hB
      go_wp2_with fail
      have q0 := kr2.out.cell 0
      refine leaves_none (P := Tryz.prog) (fn := Tryz.f6) (v := .bool true) (by simp [results, Tryz.results6, go_sem, q0]) ⟨rfl, hB2.out⟩
    case pos =>
      subst hC0
      obtain ⟨L1, hL1⟩ : ∃ M, M = (closeR L0 d).1 := ⟨_, rfl⟩
      have hcl := closed_law hok.out hlen.out (show closeR L0 d = (L1, 0) by rw [hL1, hC])
      rw [← hL1] at hS2
      obtain ⟨q1, q2, q3, q4⟩ := hcl
      have cOp := Lib.hid (fun W h => lOpen_any w1.heap.size x vx2 L1 d W h)
      have cCl := Lib.hid (fun W h => lClose_any w1.heap.size x vx2 L1 d W h)
      rw [q2] at cOp
      rw [q3] at cCl
      have hlv := Lib.hid q4
      have cLx := Lib.hid (fun W h => lLenS w1.heap.size x vx2 L1 W h)
      have cLx2 := Lib.hid (fun v W h => lLenS w1.heap.size x v L1 W h)
      have cLy := Lib.hid (fun W h => lLenS w3.heap.size y vy L0 W h)
      obtain ⟨k, hk⟩ : ∃ k, k = L0.length := ⟨_, rfl⟩
      obtain ⟨k1, hk1⟩ : ∃ k, k = L1.length := ⟨_, rfl⟩
      rw [← hk] at cLy q1
      rw [← hk1] at cLx cLx2 q1
      have hkk : ¬ (k1 : Int) < (k : Int) := by omega
      replace hk := Lib.hid hk
      replace hk1 := Lib.hid hk1
      have hS := Lib.hid hS2
      have d0 : w5.cell? ⟨w.heap.size, 0, none⟩ = some (.int .i64 d) := hD.out.cell 0
      clear hS2 hC hL1 q1 q2 q3 q4
      go_wp2_with fail
      refine (cOp.out _ hS.out).mono ?_
      rintro en w6 ⟨rfl, hb⟩
      simp only [leaf0]
      replace hB := Lib.hid (hB.out.trans (hb.mono hB.out.size))
      replace hR := Lib.hid (Blk.below hR.out hb)
      replace hD := Lib.hid (Blk.below hD.out hb)
      replace hX := Lib.hid (Blk.below hX.out hb)
      replace hS := Lib.hid (hS.out.below hb)
      replace hSy := Lib.hid (hSy.out.below hb)
      clear hb cOp x0 d0
      go_upto_region 8 with fail
      replace hB := Lib.hid (hB.out.alloc hB.out.size (.cells #[.bool false, .string ⟨#[]⟩, .string ⟨#[]⟩, .bool false, .string ⟨#[]⟩, .string ⟨#[]⟩] 38))
      replace hR := Lib.hid (Blk.alloc hR.out (.cells #[.bool false, .string ⟨#[]⟩, .string ⟨#[]⟩, .bool false, .string ⟨#[]⟩, .string ⟨#[]⟩] 38))
      replace hD := Lib.hid (Blk.alloc hD.out (.cells #[.bool false, .string ⟨#[]⟩, .string ⟨#[]⟩, .bool false, .string ⟨#[]⟩, .string ⟨#[]⟩] 38))
      replace hX := Lib.hid (Blk.alloc hX.out (.cells #[.bool false, .string ⟨#[]⟩, .string ⟨#[]⟩, .bool false, .string ⟨#[]⟩, .string ⟨#[]⟩] 38))
      replace hS := Lib.hid (hS.out.alloc (.cells #[.bool false, .string ⟨#[]⟩, .string ⟨#[]⟩, .bool false, .string ⟨#[]⟩, .string ⟨#[]⟩] 38))
      replace hSy := Lib.hid (hSy.out.alloc (.cells #[.bool false, .string ⟨#[]⟩, .string ⟨#[]⟩, .bool false, .string ⟨#[]⟩, .string ⟨#[]⟩] 38))
      generalize hW : w6.alloc (.cells #[.bool false, .string ⟨#[]⟩, .string ⟨#[]⟩, .bool false, .string ⟨#[]⟩, .string ⟨#[]⟩] 38) = w7 at hB hR hD hX hS hSy ⊢
      generalize hgg : w6.heap.size = g6
      clear hW hgg
      have x0 : w7.cell? ⟨gx, 0, none⟩ = some (.pointer (some ⟨x, 0, none⟩)) := hX.out.cell 0
      go_wp2_with fail
      refine (cLx.out _ hS.out).mono ?_
      rintro en w8 ⟨rfl, hb⟩
      replace hB := Lib.hid (hB.out.trans (hb.mono hB.out.size))
      replace hR := Lib.hid (Blk.below hR.out hb)
      replace hD := Lib.hid (Blk.below hD.out hb)
      replace hX := Lib.hid (Blk.below hX.out hb)
      replace hS := Lib.hid (hS.out.below hb)
      replace hSy := Lib.hid (hSy.out.below hb)
      clear hb x0
      go_wp2_with fail
      refine (cLy.out _ hSy.out).mono ?_
      rintro en w9 ⟨rfl, hb⟩
      replace hB := Lib.hid (hB.out.trans (hb.mono hB.out.size))
      replace hR := Lib.hid (Blk.below hR.out hb)
      replace hD := Lib.hid (Blk.below hD.out hb)
      replace hX := Lib.hid (Blk.below hX.out hb)
      replace hS := Lib.hid (hS.out.below hb)
      replace hSy := Lib.hid (hSy.out.below hb)
      clear hb cLy
      have x0 : w9.cell? ⟨gx, 0, none⟩ = some (.pointer (some ⟨x, 0, none⟩)) := hX.out.cell 0
      go_wp2_with fail
      refine (cLx.out _ hS.out).mono ?_
      rintro en w10 ⟨rfl, hb⟩
      replace hB := Lib.hid (hB.out.trans (hb.mono hB.out.size))
      replace hR := Lib.hid (Blk.below hR.out hb)
      replace hD := Lib.hid (Blk.below hD.out hb)
      replace hX := Lib.hid (Blk.below hX.out hb)
      replace hS := Lib.hid (hS.out.below hb)
      clear hb x0 cLx hkk hSy
      have x0 : w10.cell? ⟨gx, 0, none⟩ = some (.pointer (some ⟨x, 0, none⟩)) := hX.out.cell 0
      go_wp2_with fail
      refine (lLeavesP_any (.pointer (some ⟨x, 0, none⟩)) rfl rfl _).mono ?_
      rintro en w11 ⟨rfl, rfl⟩
      have hI := Lib.hid (Blk.new w10 63 #[.pointer (some ⟨x, 0, none⟩)])
      have hb : Below w10.heap.size w10 (w10.alloc (.cells #[.pointer (some ⟨x, 0, none⟩)] 63)) := (Below.refl _ _).alloc (Nat.le_refl _) _
      replace hB := Lib.hid (hB.out.trans (hb.mono hB.out.size))
      replace hR := Lib.hid (Blk.below hR.out hb)
      replace hD := Lib.hid (Blk.below hD.out hb)
      replace hX := Lib.hid (Blk.below hX.out hb)
      replace hS := Lib.hid (hS.out.below hb)
      clear hb x0
      generalize hW : w10.alloc (.cells #[.pointer (some ⟨x, 0, none⟩)] 63) = U at hI hB hR hD hX hS ⊢
      generalize hgi : w10.heap.size = gi at hI ⊢
      clear hW hgi
      go_wp2_with fail
      have hU2 := Lib.hid (show w.heap.size + 1 < U.heap.size from hR.out.lt)
      refine (wpIn_wide (n := 0)).1 ?_
      refine wpIn_iterB (gf := 93) (lb := #[.pointer (some ⟨gi, 0, none⟩)]) rfl (enters_of Tryz.func93 (by kernel_rfl) rfl) (lLeaves_iter gi w1.heap.size x vx2 L1 U hI.out hS.out) (Below.refl _ _) (fun k hk => hk.elim) (fun _ => rfl)
        (fun _ _ W' => U.grownBy W' none) (fun _ _ _ _ => False) (fun m s A B h ho => gb_out h ho) (fun _ _ _ _ _ h _ => h) (fun _ => gb_refl _ _) ?rd ?dn ?st
      case st => intro m c pre W' _ h; exact h.elim
      case dn =>
        rintro m W hg hK
        have hb := below_of_gb hg
        have hDs : w.heap.size + 1 < U.heap.size := hU2.out
        have hDlt := (Array.getElem?_eq_some_iff.1 hK).1
        replace hB := Lib.hid (hB.out.trans (hb.mono hB.out.size))
        replace hR := Lib.hid (Blk.below hR.out hb)
        replace hD := Lib.hid (Blk.below hD.out hb)
        replace hX := Lib.hid (Blk.below hX.out hb)
        replace hS := Lib.hid (hS.out.below hb)
        clear hb hg hI
        generalize hDg : U.heap.size = D1 at hK hDs hDlt ⊢
        dsimp only
        replace hK := Lib.hid hK
        have hne2 : Hid (D1 ≠ x) := Lib.hid (fun e => by
          subst e
          have h1 := (show W.heap[D1]? = _ from hS.out.lam.blk).symm.trans hK.out
          cases h1)
        have x0 : W.cell? ⟨gx, 0, none⟩ = some (.pointer (some ⟨x, 0, none⟩)) := hX.out.cell 0
        have d0 : W.cell? ⟨w.heap.size, 0, none⟩ = some (.int .i64 d) := hD.out.cell 0
        go_wp2_with fail
        refine (cCl.out _ hS.out).mono ?_
        rintro en w12 ⟨rfl, vx3, hS3, hbut⟩
        replace hK := Lib.hid ((hbut.block D1 hDlt hne2.out).trans hK.out)
        replace hB := Lib.hid (hB.out.trans (hbut.toBelow hB.out.size (fun k hk e => by have := hxB.out; omega)))
        replace hR := Lib.hid (Blk.but hR.out hbut hne.out.2.2.2.2)
        replace hX := Lib.hid (Blk.but hX.out hbut hne.out.1)
        have hDlt2 : D1 < w12.heap.size := Nat.lt_of_lt_of_le hDlt hbut.size
        replace hS3 := Lib.hid hS3
        clear hbut cCl x0 d0 hS hD
        have x0 : w12.cell? ⟨gx, 0, none⟩ = some (.pointer (some ⟨x, 0, none⟩)) := hX.out.cell 0
        go_wp2_with fail
        refine (cLx2.out _ _ hS3.out).mono ?_
        rintro en w13 ⟨rfl, hb⟩
        replace hK := Lib.hid ((hb.block D1 hDlt2).trans hK.out)
        replace hB := Lib.hid (hB.out.trans (hb.mono hB.out.size))
        replace hR := Lib.hid (Blk.below hR.out hb)
        have hDlt3 : D1 < w13.heap.size := Nat.lt_of_lt_of_le hDlt2 hb.size
        clear hb cLx2 x0 hS3 hX
        go_wp2_with fail
        refine (cAw.out _).mono ?_
        rintro en w14 ⟨rfl, hb⟩
        replace hK := Lib.hid ((hb.block D1 hDlt3).trans hK.out)
        replace hB := Lib.hid (hB.out.trans (hb.mono hB.out.size))
        replace hR := Lib.hid (Blk.below hR.out hb)
        clear hb
        have r0 : w14.cell? ⟨w.heap.size + 1, 0, none⟩ = some (.bool false) := hR.out.cell 0
        have r1 := hR.out.frozen 0
        have kr2 := Lib.hid (blk_put (hR.out.set_ 0 (.bool true)) (show w.heap.size + 1 ≠ D1 by omega) (.deferred none))
        have hB2 := Lib.hid (below_put (hB.out.setCell (p := ⟨w.heap.size + 1, 0, none⟩) (by simp) (.bool true)) (show w.heap.size ≤ D1 by omega) (.deferred none))
        have hk0 := Lib.hid (put_set (p := ⟨w.heap.size + 1, 0, none⟩) hK.out (show D1 ≠ w.heap.size + 1 by omega) (.bool true))
        clear hR hB hK
        go_wp2_with fail
        have q0 := kr2.out.cell 0
        refine leaves_one hk0.out (v := .bool true) (by simp [results, Tryz.results6, go_sem, q0]) ⟨rfl, hB2.out⟩
      case rd =>
        rintro m l pre p W hg hsz hpre Kk hKk
        have hpm := hlv.out p (mem_of_prefix hpre)
        have cTu := Lib.hid (fun W => lTurn_leaf p d W hpm.1)
        obtain ⟨TV, hTV⟩ : ∃ t, t = turnLf p d := ⟨_, rfl⟩
        rw [← hTV] at cTu hpm
        have hcase := hpm.2
        replace hg := Lib.hid hg
        replace hKk := Lib.hid hKk
        clear hpre hpm hTV
        simp only [leafV, leafE]
        gi_wp2_with fail
        refine hKk.out _ _ ((KeepB.refl _ W).alloc (fun k hk => by rcases hk with h | h; exact h.elim; omega) _) ?_
        intro o
        have xp := blk_put (Blk.new W 38 #[.bool false, .string (natS p.1.1), .string (natS p.1.2), .bool false, .string (natS p.2.1), .string (natS p.2.2)]) (show W.heap.size ≠ U.heap.size + 1 by omega) o
        have xg : U.grownBy ((W.alloc (.cells #[.bool false, .string (natS p.1.1), .string (natS p.1.2), .bool false, .string (natS p.2.1), .string (natS p.2.2)] 38)).putObj (U.heap.size + 1) o) none := gb_out (hi := U.heap.size + 2) hg.out (((OutB.refl _ _ W).alloc _).put (by omega) (by omega) o)
        have xz : ((W.alloc (.cells #[.bool false, .string (natS p.1.1), .string (natS p.1.2), .bool false, .string (natS p.2.1), .string (natS p.2.2)] 38)).putObj (U.heap.size + 1) o).heap.size = W.heap.size + 1 := by simp
        have hsz2 := hsz
        obtain ⟨gp, hgp⟩ : ∃ g, g = W.heap.size := ⟨_, rfl⟩
        generalize hxx : (W.alloc (.cells #[.bool false, .string (natS p.1.1), .string (natS p.1.2), .bool false, .string (natS p.2.1), .string (natS p.2.2)] 38)).putObj (U.heap.size + 1) o = X at xp xg xz ⊢
        rw [← hgp] at xp xz hsz ⊢
        clear hxx hgp hg hKk
        have hXU : U.heap.size + 2 + m ≤ X.heap.size := by omega
        have hbX := below_of_gb xg
        have xX := Lib.hid (Blk.below hX.out hbX)
        have xD := Lib.hid (Blk.below hD.out hbX)
        have xS := Lib.hid (hS.out.below hbX)
        replace xg := Lib.hid xg
        have b0 : X.cell? ⟨gp, 0, none⟩ = some (.bool false) := xp.cell 0
        have b1 : X.cell? ⟨gp, 1, none⟩ = some (.string (natS p.1.1)) := xp.cell 1
        have b2 : X.cell? ⟨gp, 2, none⟩ = some (.string (natS p.1.2)) := xp.cell 2
        have b3 : X.cell? ⟨gp, 3, none⟩ = some (.bool false) := xp.cell 3
        have b4 : X.cell? ⟨gp, 4, none⟩ = some (.string (natS p.2.1)) := xp.cell 4
        have b5 : X.cell? ⟨gp, 5, none⟩ = some (.string (natS p.2.2)) := xp.cell 5
        have d0 : X.cell? ⟨w.heap.size, 0, none⟩ = some (.int .i64 d) := xD.out.cell 0
        clear xp hbX hX hD hS
        gi_wp2_with fail
        refine ⟨trivial, rfl, (CallsIn.inRound _ (callsIn_wide.2 (cTu.out _))).mono ?_⟩
        rintro en w14 ⟨rfl, hb⟩
        have hXw := hb.size
        have yg := Lib.hid (gb_trans xg.out (gOfBelow hb))
        have hXY := Lib.hid hb
        have yX := Lib.hid (Blk.below xX.out hb)
        have yS := Lib.hid (xS.out.below hb)
        clear hb xX xD xS xg b0 b1 b2 b3 b4 b5 d0
        rcases hcase with rfl | ⟨t, rfl, ht1, ht2⟩
        case inl =>
          simp only [leaf0]
          gi_wp2_with fail
          refine ⟨trivial, ?_⟩
          gi_wp2_with fail
          refine ⟨?_, ?_⟩
          · exact ((KeepB.refl _ X).below (n := X.heap.size) (hXY.out.alloc hXw _) (fun k hk => by
              rcases hk with h | h
              · exact h.elim
              · omega))
          · exact gb_trans yg.out (gOfBelow ((Below.refl _ _).alloc (Nat.le_refl _) _))
        case inr =>
          simp only [leafV, leafE]
        
          have x0 : (w14.alloc (.cells #[.bool false, .string (natS t.1.1), .string (natS t.1.2), .bool false, .string (natS t.2.1), .string (natS t.2.2)] 38)).cell? ⟨gx, 0, none⟩ = some (.pointer (some ⟨x, 0, none⟩)) := (Blk.alloc yX.out (.cells #[.bool false, .string (natS t.1.1), .string (natS t.1.2), .bool false, .string (natS t.2.1), .string (natS t.2.2)] 38)).cell 0
          gi_wp2_with fail
          refine ⟨trivial, rfl, (CallsIn.inRound _ (callsIn_wide.2 (lHas_leaf w1.heap.size x vx2 L1 t _ (yS.out.alloc (.cells #[.bool false, .string (natS t.1.1), .string (natS t.1.2), .bool false, .string (natS t.2.1), .string (natS t.2.2)] 38)) ht1))).mono ?_⟩
          rintro en w15 ⟨rfl, hb⟩
          rw [decide_eq_true ht2]
          have zg := Lib.hid (gb_trans (gb_trans yg.out (gOfBelow ((Below.refl _ w14).alloc (Nat.le_refl _) (.cells #[.bool false, .string (natS t.1.1), .string (natS t.1.2), .bool false, .string (natS t.2.1), .string (natS t.2.2)] 38)))) (gOfBelow hb))
          have zY := Lib.hid ((hXY.out.alloc hXw (.cells #[.bool false, .string (natS t.1.1), .string (natS t.1.2), .bool false, .string (natS t.2.1), .string (natS t.2.2)] 38)).trans (hb.mono (hXY.out.alloc hXw (.cells #[.bool false, .string (natS t.1.1), .string (natS t.1.2), .bool false, .string (natS t.2.1), .string (natS t.2.2)] 38)).size))
          clear hb x0 yg hXY yX yS
          gi_wp2_with fail
          exact ⟨(KeepB.refl _ X).below (n := X.heap.size) zY.out (fun k hk => by
              rcases hk with h | h
              · exact h.elim
              · omega), zg.out⟩
end Go.Proofs.YtoaggmegmgdgbaaGreat
