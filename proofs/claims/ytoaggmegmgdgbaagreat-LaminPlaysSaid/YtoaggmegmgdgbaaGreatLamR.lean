import Derived.Test.YtoaggmegmgdgbaaGreatInsB
import Derived.Test.YtoaggmegmgdgbaaGreatLamP
import Derived.Test.YtoaggmegmgdgbaaGreatLamK
namespace Go.Proofs.YtoaggmegmgdgbaaGreat
open Go.RowKit Go.Sort
structure LamS (w : World) (B x : Nat) (v : Value) (L : List Lf) : Prop where
  lam : Lam w B x v L
  ok : LOk L
  len : L.length ≤ 4096
theorem LamS.below {w w' : World} {B x : Nat} {v : Value} {L : List Lf} (h : LamS w B x v L) (hb : Below w.heap.size w w') : LamS w' B x v L := ⟨h.lam.below hb, h.ok, h.len⟩
theorem LamS.alloc {w : World} {B x : Nat} {v : Value} {L : List Lf} (h : LamS w B x v L) (o : Obj) : LamS (w.alloc o) B x v L := ⟨h.lam.alloc o, h.ok, h.len⟩
theorem LamS.base {w : World} {B x : Nat} {v : Value} {L : List Lf} (h : LamS w B x v L) : B ≤ w.heap.size := Nat.le_of_lt (Nat.lt_of_le_of_lt h.lam.base h.lam.blk.lt)
theorem Lam.apart {w : World} {B x : Nat} {v : Value} {L : List Lf} (h : Lam w B x v L) : v.ownBlock ≠ some x := fun e => by
  rcases h.row.2 with ⟨rfl, -⟩ | ⟨g, cap, cur, rfl, -, hg, -⟩
  · cases e
  · have e : some g = some x := e
    injection e with e
    subst e
    have h1 := (show w.heap[g]? = _ from h.blk).symm.trans hg
    injection h1 with h1
    injection h1 with h1 h2 h3
    exact absurd h2 (by decide)
theorem Lam.old {w : World} {B x : Nat} {v : Value} {L : List Lf} (h : Lam w B x v L) : ∀ k, k = x ∨ v.ownBlock = some k → B ≤ k ∧ k < w.heap.size := fun k hk => by
  rcases hk with rfl | hk
  · exact ⟨h.base, h.blk.lt⟩
  · exact World.ownsRow.lt h.row k hk
def addR (L : List Lf) (n1 : Bool) (a1 d1 : ByteArray) (n2 : Bool) (a2 d2 : ByteArray) : List Lf × Int :=
  if chkLf n1 a1 d1 n2 a2 d2 = 0 then addL L ((be (sl a1), be (sl d1)), (be (sl a2), be (sl d2))) else (L, chkLf n1 a1 d1 n2 a2 d2)
theorem noCross_iff {L : List Lf} {l : Lf} : noCross l L ↔ L.any (crossP l) = false := by
  rw [Bool.eq_false_iff]
  constructor
  · intro h e
    obtain ⟨m, hm, e⟩ := List.any_eq_true.1 e
    obtain ⟨i, hi, rfl⟩ := List.mem_iff_getElem.1 hm
    have := h i hi
    rw [getElem!_pos L i hi] at this
    unfold crossP at e
    rw [this] at e
    cases e
  · intro h t ht
    rcases hp : partsP l L[t]!.1 L[t]!.2 with _ | _
    · rfl
    · exact absurd (List.any_eq_true.2 ⟨L[t]!, getBang_mem ht, hp⟩) h
theorem addL_putL {L : List Lf} {l : Lf} (h1 : l ∉ L) (h2 : ¬ L.any (crossP l) = true) (h3 : ¬ 4096 ≤ L.length) : addL L l = (putL L l (plcL L l), 0) := by
  unfold addL; rw [if_neg h1, if_neg h2, if_neg h3]
set_option maxRecDepth 100000 in
theorem lAdd_leaf (B x : Nat) (v : Value) (L : List Lf) (l : Lf) (w : World) (hS : LamS w B x v L) (hl : Lfp l) :
    Calls Tryz.prog 45 #[.pointer (some ⟨x, 0, none⟩), .agg #[.bool false, .string (natS l.1.1), .string (natS l.1.2), .bool false, .string (natS l.2.1), .string (natS l.2.2)]] w fun e w' => e = .returned (.int .i64 (addL L l).2) ∧ ∃ v', LamS w' B x v' (addL L l).1 ∧ But (fun k => k = x ∨ v.ownBlock = some k) w w' := by
  have hP := Plc.of_up hS.ok.ang hl.1 hS.ok.up
  have hhas := hP.has hS.ok.ang hS.ok.up (l := l)
  have hbase := hS.base
  have hapart := hS.lam.apart
  obtain ⟨hL, hok, hlen⟩ := hS
  by_cases h1 : l ∈ L
  · have hx : noCross l L := noCross_iff.2 (by
      rw [Bool.eq_false_iff]
      intro e
      obtain ⟨m, hm, e⟩ := List.any_eq_true.1 e
      rw [hok.nc l m h1 hm] at e
      cases e)
    refine (lAdd_has B x _ v L l w hL hl.1 hl.2 hok.ang hP hlen hx (hhas.2 h1)).mono ?_
    rintro e w' ⟨rfl, hb⟩
    rw [show addL L l = (L, 0) by unfold addL; rw [if_pos h1]]
    exact ⟨rfl, v, ⟨hL.below hb, hok, hlen⟩, But.of_below hb⟩
  by_cases h2 : L.any (crossP l) = true
  · refine (lAdd_cross B x _ v L l w hL hl.1 hl.2 hok.ang hP hlen (fun h => by rw [noCross_iff.1 h] at h2; cases h2)).mono ?_
    rintro e w' ⟨rfl, hb⟩
    rw [show addL L l = (L, 231) by unfold addL; rw [if_neg h1, if_pos h2]]
    exact ⟨rfl, v, ⟨hL.below hb, hok, hlen⟩, But.of_below hb⟩
  have hx : noCross l L := noCross_iff.2 (by rwa [Bool.eq_false_iff])
  by_cases h3 : 4096 ≤ L.length
  · refine (lAdd_long B x _ v L l w hL hl.1 hl.2 hok.ang hP hlen hx (fun h => h1 (hhas.1 h)) h3).mono ?_
    rintro e w' ⟨rfl, hb⟩
    rw [show addL L l = (L, 4) by unfold addL; rw [if_neg h1, if_neg h2, if_pos h3]]
    exact ⟨rfl, v, ⟨hL.below hb, hok, hlen⟩, But.of_below hb⟩
  · refine (lAdd_new B x _ v L l w hL hl.1 hl.2 hok.ang hP hlen hx (fun h => h1 (hhas.1 h)) (by omega) (insLaw_any B v L l _ hP.le (by omega)) hbase hapart).mono ?_
    rintro e w' ⟨rfl, v', k1, k2⟩
    have hA := addL_ok hok hl
    have hN := addL_len (l := l) hlen
    rw [addL_putL h1 h2 h3] at hA hN ⊢
    exact ⟨rfl, v', ⟨k1, hA, hN⟩, k2⟩
theorem lAdd_any (B x : Nat) (v : Value) (L : List Lf) (n1 : Bool) (a1 d1 : ByteArray) (n2 : Bool) (a2 d2 : ByteArray) (w : World) (hS : LamS w B x v L) (z1 : a1.size ≤ 9223372036854775807) (y1 : d1.size ≤ 9223372036854775807) (z2 : a2.size ≤ 9223372036854775807) (y2 : d2.size ≤ 9223372036854775807) :
    Calls Tryz.prog 45 #[.pointer (some ⟨x, 0, none⟩), .agg #[.bool n1, .string a1, .string d1, .bool n2, .string a2, .string d2]] w fun e w' => e = .returned (.int .i64 (addR L n1 a1 d1 n2 a2 d2).2) ∧ ∃ v', LamS w' B x v' (addR L n1 a1 d1 n2 a2 d2).1 ∧ But (fun k => k = x ∨ v.ownBlock = some k) w w' := by
  by_cases h : chkLf n1 a1 d1 n2 a2 d2 = 0
  · obtain ⟨l, k1, k2, rfl, rfl, rfl, rfl, rfl, rfl⟩ := chkLf_zero h
    have h1 := lAdd_leaf B x v L l w hS ⟨k1, k2⟩
    unfold addR
    rw [if_pos h, be_natS, be_natS, be_natS, be_natS]
    exact h1
  · refine (lAdd_bad n1 a1 d1 n2 a2 d2 w x v hS.lam.blk z1 y1 z2 y2 h).mono ?_
    rintro e w' ⟨rfl, hb⟩
    unfold addR
    rw [if_neg h]
    exact ⟨rfl, v, hS.below hb, But.of_below hb⟩
def hasR (L : List Lf) (n1 : Bool) (a1 d1 : ByteArray) (n2 : Bool) (a2 d2 : ByteArray) : Bool :=
  decide (chkLf n1 a1 d1 n2 a2 d2 = 0 ∧ ((be (sl a1), be (sl d1)), (be (sl a2), be (sl d2))) ∈ L)
theorem lHas_all (B x : Nat) (v : Value) (L : List Lf) (n1 : Bool) (a1 d1 : ByteArray) (n2 : Bool) (a2 d2 : ByteArray) (w : World) (hS : LamS w B x v L) (z1 : a1.size ≤ 9223372036854775807) (y1 : d1.size ≤ 9223372036854775807) (z2 : a2.size ≤ 9223372036854775807) (y2 : d2.size ≤ 9223372036854775807) :
    Calls Tryz.prog 42 #[.pointer (some ⟨x, 0, none⟩), .agg #[.bool n1, .string a1, .string d1, .bool n2, .string a2, .string d2]] w (RetVal (.bool (hasR L n1 a1 d1 n2 a2 d2)) w) := by
  by_cases h : chkLf n1 a1 d1 n2 a2 d2 = 0
  · have hz := h
    obtain ⟨l, k1, k2, rfl, rfl, rfl, rfl, rfl, rfl⟩ := chkLf_zero h
    have hP := Plc.of_up hS.ok.ang k1 hS.ok.up
    have h1 := lHas_any B x _ v L l w hS.lam k1 k2 hS.ok.ang hP hS.len
    have e : hasR L false (natS l.1.1) (natS l.1.2) false (natS l.2.1) (natS l.2.2) = decide (plcL L l < L.length ∧ L[plcL L l]! = l) := by
      unfold hasR
      rw [be_natS, be_natS, be_natS, be_natS]
      exact decide_eq_decide.2 (⟨fun h => (hP.has hS.ok.ang hS.ok.up).2 h.2, fun h => ⟨hz, (hP.has hS.ok.ang hS.ok.up).1 h⟩⟩)
    rw [e]
    exact h1
  · have h1 := lHas_bad n1 a1 d1 n2 a2 d2 w x v hS.lam.blk z1 y1 z2 y2 h
    have e : hasR L n1 a1 d1 n2 a2 d2 = false := decide_eq_false (fun k => h k.1)
    rw [e]
    exact h1
theorem lplace_leaf (B x : Nat) (v : Value) (L : List Lf) (l : Lf) (w : World) (hS : LamS w B x v L) (hl : AngL l) :
    Calls Tryz.prog 92 #[.pointer (some ⟨x, 0, none⟩), .agg #[.bool false, .string (natS l.1.1), .string (natS l.1.2), .bool false, .string (natS l.2.1), .string (natS l.2.2)]] w (RetVal (.tuple #[.int .i64 (plcL L l : Int), .bool (decide (l ∈ L))]) w) := by
  have hP := Plc.of_up hS.ok.ang hl hS.ok.up
  have h1 := lplace_any B x _ v L l w hS.lam hl hS.ok.ang hP (Nat.le_trans hS.len (by decide))
  rw [show decide (plcL L l < L.length ∧ L[plcL L l]! = l) = decide (l ∈ L) from decide_eq_decide.2 (hP.has hS.ok.ang hS.ok.up)] at h1
  exact h1
set_option maxRecDepth 100000 in
set_option maxHeartbeats 1000000 in
theorem lcloneL (B : Nat) (v : Value) (L : List Lf) (w : World) (h : LRow w B v L) (hn : L.length ≤ 1048576) :
    Calls Tryz.prog 90 #[v] w fun e w' => ∃ v', e = .returned v' ∧ Hid (LRow w' w.heap.size v' L) ∧ Hid (Below w.heap.size w w') := by
  have q : ∀ (w : World) (a : Option Addr) (n c n' c' : Nat), (binOp .eql 27 (.slice a n c) (.slice none n' c')).run Tryz.prog w = .ok (.bool a.isNone) w := fun w a n c n' c' => Lib.run_eql_slice_nil w _ _ a n c n' c' Tryz.underlying27
  rcases h.2 with ⟨rfl, h0⟩ | ⟨g, cap, cur, rfl, hbase, hg, hnc, hmx, hcs, htk⟩
  · have h0' : L = [] := List.eq_nil_of_length_eq_zero h0
    subst h0'
    go_enter Tryz.func90, Tryz.ntmps90
    go_wp2_with fail
    go_ret
    exact ⟨_, rfl, Lib.hid (World.ownsRow_nil _ _ _ _), Lib.hid (Below.refl _ _)⟩
  · obtain ⟨i0, hi, hz0, hz1, hz2⟩ := info_parts info_leafI
    obtain ⟨n, hn2⟩ : ∃ n, n = L.length := ⟨_, rfl⟩
    have hX : Hid ((flatL L).length = n * 6) := Lib.hid (by rw [flatL_len, hn2])
    have hC : Hid (∀ W, Below w.heap.size w W → ∀ (j : Nat) (u : Value), (flatL L)[j]? = some u → W.cell? ((⟨g, 0, none⟩ : Addr).add j) = some u) := Lib.hid (fun W hb j u hj => World.ownsRow.cells (LRow.below h hb) (g := g) rfl j u hj)
    have hO := Lib.hid (flatL_one L)
    have h0 := Lib.hid (World.ownsRow_made (base := w.heap.size) (e := 38) (size := 6) w #[] 0 (Nat.le_refl _) (Nat.zero_le _) rfl)
    have hB := Lib.hid ((Below.refl w.heap.size w).alloc (Nat.le_refl _) (.cells #[] 38))
    rw [← hn2] at hn ⊢
    replace hn2 := Lib.hid hn2
    clear h hg hnc hmx hcs htk hbase
    go_enter Tryz.func90, Tryz.ntmps90
    go_wp2_with (at_builtin; refine wpList_append_own _ rfl _ _ 27 rfl w.heap.size 38 i0 (.agg #[.bool false, .string ⟨#[]⟩, .string ⟨#[]⟩, .bool false, .string ⟨#[]⟩, .string ⟨#[]⟩]) 6 80 Tryz.underlying27 hi hz0 hz1 hz2 rfl (by decide) _ _ _ rfl h0.out ⟨g, 0, none⟩ n cap (flatL L) rfl hX.out (hC.out _ hB.out) hO.out (by unfold maxLen; omega) (by omega) (by simp) ?_)
    intro v' w3 hown' hgrow _
    have hB3 := Lib.hid (hB.out.grown hgrow (by simp) (fun k hk => by
      simp only [Value.ownBlock, Option.some.injEq] at hk
      omega))
    replace hown' : Hid (LRow w3 w.heap.size v' L) := Lib.hid (by
      have h := hown'
      rw [hn2.out] at h
      exact h)
    clear hgrow h0 hC hO hX hB
    go_wp2_with fail
    go_ret
    exact ⟨_, rfl, hown', hB3⟩
theorem row_monoL {w : World} {B B' : Nat} {v : Value} {L : List Lf} (h : LRow w B v L) (hb : B' ≤ B) : LRow w B' v L := by
  refine ⟨h.1, h.2.imp id ?_⟩
  rintro ⟨g, cap, cur, rfl, h1, rest⟩
  exact ⟨g, cap, cur, rfl, Nat.le_trans hb h1, rest⟩
set_option maxRecDepth 100000 in
set_option maxHeartbeats 2000000 in
theorem lCopy_any (B x : Nat) (v : Value) (L : List Lf) (w : World) (hS : LamS w B x v L) :
    Calls Tryz.prog 38 #[.pointer (some ⟨x, 0, none⟩)] w (fun e w' => ∃ x' v', e = .returned (.pointer (some ⟨x', 0, none⟩)) ∧ LamS w' w.heap.size x' v' L ∧ Below w.heap.size w w') := by
  have hS0 := Lib.hid hS
  obtain ⟨A, c, rfl, hA⟩ := LRow.form hS.lam.row
  have hN : Hid (∀ W, LamS W B x (.slice A L.length c) L → Calls Tryz.prog 76 #[.pointer (some ⟨x, 0, none⟩)] W (RetVal (.bool false) W)) := Lib.hid (fun W h => lnone_any x true _ W h.lam.blk)
  have hCl : Hid (∀ W, LamS W B x (.slice A L.length c) L → Calls Tryz.prog 90 #[.slice A L.length c] W fun e w' => ∃ v', e = .returned v' ∧ Hid (LRow w' W.heap.size v' L) ∧ Hid (Below W.heap.size W w')) := Lib.hid (fun W h => lcloneL B _ L W h.lam.row (Nat.le_trans h.len (by decide)))
  obtain ⟨n, hn⟩ : ∃ n, n = L.length := ⟨_, rfl⟩
  rw [← hn] at hN hCl hS0
  replace hn := Lib.hid hn
  have hB := Lib.hid (Below.refl w.heap.size w)
  clear hS hA
  go_enter Tryz.func38, Tryz.ntmps38
  go_wp2_with fail
  refine (hN.out _ hS0.out).mono ?_
  rintro en w2 ⟨rfl, hb⟩
  replace hB := Lib.hid (hB.out.trans (hb.mono hB.out.size))
  replace hS0 := Lib.hid (hS0.out.below hb)
  clear hb hN
  have y1 : w2.cell? ⟨x, 1, none⟩ = some (.slice A n c) := hS0.out.lam.blk.cell 1
  go_wp2_with fail
  refine (hCl.out _ hS0.out).mono ?_
  rintro en w3 ⟨v3, rfl, hr3, hb3⟩
  replace hr3 := Lib.hid (row_monoL hr3.out hB.out.size)
  replace hB := Lib.hid (hB.out.trans (hb3.out.mono hB.out.size))
  have hok := Lib.hid hS0.out.ok
  have hlen := Lib.hid hS0.out.len
  have hBs := Lib.hid hB.out.size
  clear hb3 hCl y1 hS0
  obtain ⟨A3, c3, hv3, -⟩ := LRow.form hr3.out
  subst hv3
  go_wp2_with fail
  go_ret
  exact ⟨_, _, rfl, ⟨⟨Blk.new w3 103 #[.bool true, _], LRow.alloc hr3.out _, hBs.out⟩, hok.out, hlen.out⟩, hB.out.alloc hBs.out _⟩
open Go.RowKit Go.Sort
abbrev RawL := (Bool × ByteArray × ByteArray) × (Bool × ByteArray × ByteArray)
def encR (r : RawL) : List Value := [.bool r.1.1, .string r.1.2.1, .string r.1.2.2, .bool r.2.1, .string r.2.2.1, .string r.2.2.2]
def szR (r : RawL) : Prop := r.1.2.1.size ≤ 9223372036854775807 ∧ r.1.2.2.size ≤ 9223372036854775807 ∧ r.2.2.1.size ≤ 9223372036854775807 ∧ r.2.2.2.size ≤ 9223372036854775807
def RdK {α : Type} [Inhabited α] (k : Nat) (enc : α → List Value) (w : World) (v : Value) (Ls : List α) : Prop :=
  ∃ A c, v = .slice A Ls.length c ∧ (0 < Ls.length → ∃ g o, A = some ⟨g, o, none⟩ ∧ ∀ i, i < Ls.length → ∀ (j : Nat) (u : Value), (enc Ls[i]!)[j]? = some u → w.cell? ⟨g, o + i * k + j, none⟩ = some u)
theorem lLenS (B x : Nat) (v : Value) (L : List Lf) (w : World) (hS : LamS w B x v L) : Calls Tryz.prog 29 #[.pointer (some ⟨x, 0, none⟩)] w (RetVal (.int .i64 (L.length : Int)) w) := by
  obtain ⟨A, c, rfl, -⟩ := LRow.form hS.lam.row
  exact lLen_any x true A L.length c w hS.lam.blk
end Go.Proofs.YtoaggmegmgdgbaaGreat
