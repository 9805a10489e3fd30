import Derived.Test.YtoaggmegmgdgbaaGreatInsB
import Derived.Test.YtoaggmegmgdgbaaGreatLamP
import Derived.Test.YtoaggmegmgdgbaaGreatLamK
namespace Go.Proofs.YtoaggmegmgdgbaaGreat
open Go.RowKit Go.Sort
structure LamS (w : World) (B x : Nat) (v : Value) (L : List Lf) : Prop where
  lam : Lam w B x v L
  ok : LOk L
  len : L.length ≤ 4096
theorem LamS.below {w w' : World} {B x : Nat} {v : Value} {L : List Lf} (h : LamS w B x v L) (hb : Below w.heap.size w w') : LamS w' B x v L := ⟨h.lam.below hb, h.ok, h.len⟩
theorem LamS.base {w : World} {B x : Nat} {v : Value} {L : List Lf} (h : LamS w B x v L) : B ≤ w.heap.size := Nat.le_of_lt (Nat.lt_of_le_of_lt h.lam.base h.lam.blk.lt)
theorem Lam.apart {w : World} {B x : Nat} {v : Value} {L : List Lf} (h : Lam w B x v L) : v.ownBlock ≠ some x := fun e => by
  rcases h.row.2 with ⟨rfl, -⟩ | ⟨g, cap, cur, rfl, -, hg, -⟩
  · cases e
  · have e : some g = some x := e
    injection e with e
    subst e
    have h1 := (show w.heap[g]? = _ from h.blk).symm.trans hg
    injection h1 with h1
    injection h1 with h1 h2 h3
    exact absurd h2 (by decide)
theorem Lam.old {w : World} {B x : Nat} {v : Value} {L : List Lf} (h : Lam w B x v L) : ∀ k, k = x ∨ v.ownBlock = some k → B ≤ k ∧ k < w.heap.size := fun k hk => by
  rcases hk with rfl | hk
  · exact ⟨h.base, h.blk.lt⟩
  · exact World.ownsRow.lt h.row k hk
def addR (L : List Lf) (n1 : Bool) (a1 d1 : ByteArray) (n2 : Bool) (a2 d2 : ByteArray) : List Lf × Int :=
  if chkLf n1 a1 d1 n2 a2 d2 = 0 then addL L ((be (sl a1), be (sl d1)), (be (sl a2), be (sl d2))) else (L, chkLf n1 a1 d1 n2 a2 d2)
theorem noCross_iff {L : List Lf} {l : Lf} : noCross l L ↔ L.any (crossP l) = false := by
  rw [Bool.eq_false_iff]
  constructor
  · intro h e
    obtain ⟨m, hm, e⟩ := List.any_eq_true.1 e
    obtain ⟨i, hi, rfl⟩ := List.mem_iff_getElem.1 hm
    have := h i hi
    rw [getElem!_pos L i hi] at this
    unfold crossP at e
    rw [this] at e
    cases e
  · intro h t ht
    rcases hp : partsP l L[t]!.1 L[t]!.2 with _ | _
    · rfl
    · exact absurd (List.any_eq_true.2 ⟨L[t]!, getBang_mem ht, hp⟩) h
theorem addL_putL {L : List Lf} {l : Lf} (h1 : l ∉ L) (h2 : ¬ L.any (crossP l) = true) (h3 : ¬ 4096 ≤ L.length) : addL L l = (putL L l (plcL L l), 0) := by
  unfold addL; rw [if_neg h1, if_neg h2, if_neg h3]
set_option maxRecDepth 100000 in
theorem lAdd_leaf (B x : Nat) (v : Value) (L : List Lf) (l : Lf) (w : World) (hS : LamS w B x v L) (hl : Lfp l) :
    Calls Tryz.prog 45 #[.pointer (some ⟨x, 0, none⟩), .agg #[.bool false, .string (natS l.1.1), .string (natS l.1.2), .bool false, .string (natS l.2.1), .string (natS l.2.2)]] w fun e w' => e = .returned (.int .i64 (addL L l).2) ∧ ∃ v', LamS w' B x v' (addL L l).1 ∧ But (fun k => k = x ∨ v.ownBlock = some k) w w' := by
  have hP := Plc.of_up hS.ok.ang hl.1 hS.ok.up
  have hhas := hP.has hS.ok.ang hS.ok.up (l := l)
  have hbase := hS.base
  have hapart := hS.lam.apart
  obtain ⟨hL, hok, hlen⟩ := hS
  by_cases h1 : l ∈ L
  · have hx : noCross l L := noCross_iff.2 (by
      rw [Bool.eq_false_iff]
      intro e
      obtain ⟨m, hm, e⟩ := List.any_eq_true.1 e
      rw [hok.nc l m h1 hm] at e
      cases e)
    refine (lAdd_has B x _ v L l w hL hl.1 hl.2 hok.ang hP hlen hx (hhas.2 h1)).mono ?_
    rintro e w' ⟨rfl, hb⟩
    rw [show addL L l = (L, 0) by unfold addL; rw [if_pos h1]]
    exact ⟨rfl, v, ⟨hL.below hb, hok, hlen⟩, But.of_below hb⟩
  by_cases h2 : L.any (crossP l) = true
  · refine (lAdd_cross B x _ v L l w hL hl.1 hl.2 hok.ang hP hlen (fun h => by rw [noCross_iff.1 h] at h2; cases h2)).mono ?_
    rintro e w' ⟨rfl, hb⟩
    rw [show addL L l = (L, 231) by unfold addL; rw [if_neg h1, if_pos h2]]
    exact ⟨rfl, v, ⟨hL.below hb, hok, hlen⟩, But.of_below hb⟩
  have hx : noCross l L := noCross_iff.2 (by rwa [Bool.eq_false_iff])
  by_cases h3 : 4096 ≤ L.length
  · refine (lAdd_long B x _ v L l w hL hl.1 hl.2 hok.ang hP hlen hx (fun h => h1 (hhas.1 h)) h3).mono ?_
    rintro e w' ⟨rfl, hb⟩
    rw [show addL L l = (L, 4) by unfold addL; rw [if_neg h1, if_neg h2, if_pos h3]]
    exact ⟨rfl, v, ⟨hL.below hb, hok, hlen⟩, But.of_below hb⟩
  · refine (lAdd_new B x _ v L l w hL hl.1 hl.2 hok.ang hP hlen hx (fun h => h1 (hhas.1 h)) (by omega) (insLaw_any B v L l _ hP.le (by omega)) hbase hapart).mono ?_
    rintro e w' ⟨rfl, v', k1, k2⟩
    have hA := addL_ok hok hl
    have hN := addL_len (l := l) hlen
    rw [addL_putL h1 h2 h3] at hA hN ⊢
    exact ⟨rfl, v', ⟨k1, hA, hN⟩, k2⟩
theorem lAdd_any (B x : Nat) (v : Value) (L : List Lf) (n1 : Bool) (a1 d1 : ByteArray) (n2 : Bool) (a2 d2 : ByteArray) (w : World) (hS : LamS w B x v L) (z1 : a1.size ≤ 9223372036854775807) (y1 : d1.size ≤ 9223372036854775807) (z2 : a2.size ≤ 9223372036854775807) (y2 : d2.size ≤ 9223372036854775807) :
    Calls Tryz.prog 45 #[.pointer (some ⟨x, 0, none⟩), .agg #[.bool n1, .string a1, .string d1, .bool n2, .string a2, .string d2]] w fun e w' => e = .returned (.int .i64 (addR L n1 a1 d1 n2 a2 d2).2) ∧ ∃ v', LamS w' B x v' (addR L n1 a1 d1 n2 a2 d2).1 ∧ But (fun k => k = x ∨ v.ownBlock = some k) w w' := by
  by_cases h : chkLf n1 a1 d1 n2 a2 d2 = 0
  · obtain ⟨l, k1, k2, rfl, rfl, rfl, rfl, rfl, rfl⟩ := chkLf_zero h
    have h1 := lAdd_leaf B x v L l w hS ⟨k1, k2⟩
    unfold addR
    rw [if_pos h, be_natS, be_natS, be_natS, be_natS]
    exact h1
  · refine (lAdd_bad n1 a1 d1 n2 a2 d2 w x v hS.lam.blk z1 y1 z2 y2 h).mono ?_
    rintro e w' ⟨rfl, hb⟩
    unfold addR
    rw [if_neg h]
    exact ⟨rfl, v, hS.below hb, But.of_below hb⟩
open Go.RowKit Go.Sort
abbrev RawL := (Bool × ByteArray × ByteArray) × (Bool × ByteArray × ByteArray)
def encR (r : RawL) : List Value := [.bool r.1.1, .string r.1.2.1, .string r.1.2.2, .bool r.2.1, .string r.2.2.1, .string r.2.2.2]
def szR (r : RawL) : Prop := r.1.2.1.size ≤ 9223372036854775807 ∧ r.1.2.2.size ≤ 9223372036854775807 ∧ r.2.2.1.size ≤ 9223372036854775807 ∧ r.2.2.2.size ≤ 9223372036854775807
def RdK {α : Type} [Inhabited α] (k : Nat) (enc : α → List Value) (w : World) (v : Value) (Ls : List α) : Prop :=
  ∃ A c, v = .slice A Ls.length c ∧ (0 < Ls.length → ∃ g o, A = some ⟨g, o, none⟩ ∧ ∀ i, i < Ls.length → ∀ (j : Nat) (u : Value), (enc Ls[i]!)[j]? = some u → w.cell? ⟨g, o + i * k + j, none⟩ = some u)
theorem RdK.below {α : Type} [Inhabited α] {k : Nat} {enc : α → List Value} {w w' : World} {v : Value} {Ls : List α} (h : RdK k enc w v Ls) (hb : Below w.heap.size w w') : RdK k enc w' v Ls := by
  obtain ⟨A, c, rfl, h⟩ := h
  refine ⟨A, c, rfl, fun h0 => ?_⟩
  obtain ⟨g, o, e, h2⟩ := h h0
  refine ⟨g, o, e, fun i hi j u hu => ?_⟩
  have h1 := h2 i hi j u hu
  rw [hb.cell (block_lt_of_cell h1)]
  exact h1
def addQ (L : List Lf) (r : RawL) : List Lf × Int := addR L r.1.1 r.1.2.1 r.1.2.2 r.2.1 r.2.2.1 r.2.2.2
def madeR (Ls : List RawL) : List Lf := Ls.foldl (fun L r => (addQ L r).1) []
theorem madeR_snoc (Ls : List RawL) (r : RawL) : madeR (Ls ++ [r]) = (addQ (madeR Ls) r).1 := by simp [madeR]
theorem addQ_len {L : List Lf} {r : RawL} : (addQ L r).1.length ≤ L.length + 1 := by
  unfold addQ addR
  split
  · unfold addL
    split
    · simp
    split
    · simp
    split
    · simp
    · rw [putL_length (plcL_le _ _)]; exact Nat.le_refl _
  · simp
theorem madeR_len (Ls : List RawL) : (madeR Ls).length ≤ Ls.length := by
  have h : ∀ (Ls : List RawL) (L : List Lf), (Ls.foldl (fun L r => (addQ L r).1) L).length ≤ L.length + Ls.length := by
    intro Ls
    induction Ls with
    | nil => intro L; simp
    | cons a r ih =>
      intro L
      rw [List.foldl_cons, List.length_cons]
      have := ih (addQ L a).1
      have := addQ_len (L := L) (r := a)
      omega
  have := h Ls []
  unfold madeR
  simpa using this
theorem lLenS (B x : Nat) (v : Value) (L : List Lf) (w : World) (hS : LamS w B x v L) : Calls Tryz.prog 29 #[.pointer (some ⟨x, 0, none⟩)] w (RetVal (.int .i64 (L.length : Int)) w) := by
  obtain ⟨A, c, rfl, -⟩ := LRow.form hS.lam.row
  exact lLen_any x true A L.length c w hS.lam.blk
set_option maxRecDepth 100000 in
set_option maxHeartbeats 4000000 in
theorem lmade_any (v : Value) (Ls : List RawL) (w : World) (hv : RdK 6 encR w v Ls) (hz : ∀ r, r ∈ Ls → szR r) (hn : Ls.length ≤ 1048576) :
    Calls Tryz.prog 27 #[v] w fun e w' => ∃ x v', e = .returned (.pointer (some ⟨x, 0, none⟩)) ∧ LamS w' w.heap.size x v' (madeR Ls) ∧ Below w.heap.size w w' := by
  obtain ⟨A, c, rfl, hA⟩ := hv
  have hAdd : Hid (∀ (i x : Nat) (u : Value) (L : List Lf) (n1 : Bool) (a1 d1 : ByteArray) (n2 : Bool) (a2 d2 : ByteArray) W, i < Ls.length → Ls[i]! = ((n1, a1, d1), (n2, a2, d2)) → LamS W w.heap.size x u L → Calls Tryz.prog 45 #[.pointer (some ⟨x, 0, none⟩), .agg #[.bool n1, .string a1, .string d1, .bool n2, .string a2, .string d2]] W fun e w' => e = .returned (.int .i64 (addQ L Ls[i]!).2) ∧ ∃ v', LamS w' w.heap.size x v' (addQ L Ls[i]!).1 ∧ But (fun k => k = x ∨ u.ownBlock = some k) W w') := Lib.hid (fun i x u L n1 a1 d1 n2 a2 d2 W hi e h => by
    have hs := hz Ls[i]! (by rw [getElem!_pos Ls i hi]; exact List.getElem_mem hi)
    rw [e] at hs ⊢
    exact lAdd_any w.heap.size x u L n1 a1 d1 n2 a2 d2 W h hs.1 hs.2.1 hs.2.2.1 hs.2.2.2)
  have hC0 : Hid (∀ W, Below w.heap.size w W → 0 < Ls.length → ∃ g o, A = some ⟨g, o, none⟩ ∧ ∀ i, i < Ls.length → ∀ (j : Nat) (u : Value), (encR Ls[i]!)[j]? = some u → W.cell? ⟨g, o + i * 6 + j, none⟩ = some u) := Lib.hid (fun W hb h0 => by
    obtain ⟨g, o, rfl, h⟩ := hA h0
    refine ⟨g, o, rfl, fun i hi j u hu => ?_⟩
    have h1 := h i hi j u hu
    rw [hb.cell (block_lt_of_cell h1)]
    exact h1)
  obtain ⟨n, hn2⟩ : ∃ n, n = Ls.length := ⟨_, rfl⟩
  rw [← hn2] at hAdd hC0 hn ⊢
  replace hn2 := Lib.hid hn2
  have hB := Lib.hid (Below.refl w.heap.size w)
  clear hA hz
  go_enter Tryz.func27, Tryz.ntmps27
  go_wp2_with fail
  refine (lNew_any _).mono ?_
  rintro en w2 ⟨rfl, rfl⟩
  have hBl := Blk.new w 103 #[.bool true, .slice none 0 0]
  replace hB := Lib.hid (hB.out.alloc hB.out.size (.cells #[.bool true, .slice none 0 0] 103))
  generalize hW : w.alloc (.cells #[.bool true, .slice none 0 0] 103) = w3 at hBl hB ⊢
  obtain ⟨x, hx⟩ : ∃ x, x = w.heap.size := ⟨_, rfl⟩
  have hxb : w.heap.size ≤ x := by omega
  rw [← hx] at hBl ⊢
  have hL : Hid (LamS w3 w.heap.size x (.slice none 0 0) []) := Lib.hid ⟨⟨hBl, World.ownsRow_nil _ _ _ _, hxb⟩, LOk.nil, Nat.zero_le _⟩
  replace hx := Lib.hid hx
  clear hW hBl hxb
  go_wp2_with fail
  go_loopg [4] n (fun kx s4 wr => ∃ (i : Nat) (u : Value), s4 = .int .i64 (i : Int) ∧ i ≤ n ∧ n - i ≤ kx ∧ Hid (LamS wr w.heap.size x u (madeR (Ls.take i))) ∧ Hid (Below w.heap.size w wr))
  case atStart => exact ⟨0, _, rfl, Nat.zero_le _, Nat.le_refl _, hL, hB⟩
  case round =>
    clear hL hB
    obtain ⟨i, u, rfl, hin, hg, hL, hB⟩ := hrel
    by_cases hlt : i < n
    case pos =>
      have hil : i < Ls.length := by rw [← hn2.out]; exact hlt
      obtain ⟨g, o, rfl, hC⟩ := hC0.out wr hB.out (by omega)
      replace hC := hC i hlt
      obtain ⟨⟨⟨n1, a1, d1⟩, ⟨n2, a2, d2⟩⟩, hr⟩ : ∃ r, r = Ls[i]! := ⟨_, rfl⟩
      rw [← hr] at hC
      have m0 : wr.cell? ⟨g, o + i * 6, none⟩ = some (.bool n1) := hC 0 _ rfl
      have m1 : wr.cell? ⟨g, o + i * 6 + 1, none⟩ = some (.string a1) := hC 1 _ rfl
      have m2 : wr.cell? ⟨g, o + i * 6 + 2, none⟩ = some (.string d1) := hC 2 _ rfl
      have m3 : wr.cell? ⟨g, o + i * 6 + 3, none⟩ = some (.bool n2) := hC 3 _ rfl
      have m4 : wr.cell? ⟨g, o + i * 6 + 4, none⟩ = some (.string a2) := hC 4 _ rfl
      have m5 : wr.cell? ⟨g, o + i * 6 + 5, none⟩ = some (.string d2) := hC 5 _ rfl
      have hiz : (i : Int) < (n : Int) := by omega
      have hsnoc : Hid (madeR (Ls.take (i + 1)) = (addQ (madeR (Ls.take i)) Ls[i]!).1) := Lib.hid (by
        rw [← madeR_snoc, getElem!_pos Ls i hil, List.take_append_getElem]
        )
      obtain ⟨E, hE⟩ : ∃ E, E = (addQ (madeR (Ls.take i)) Ls[i]!).2 := ⟨_, rfl⟩
      have hAd := Lib.hid (hAdd.out i x u (madeR (Ls.take i)) n1 a1 d1 n2 a2 d2 wr hlt hr.symm hL.out)
      rw [← hE, ← hsnoc.out] at hAd
      have hold := Lib.hid hL.out.lam.old
      clear hC hil hE hr hAdd
      go_wp2_with fail
      refine hAd.out.mono ?_
      rintro en w4 ⟨rfl, u2, hL2, hbut⟩
      have hB2 := Lib.hid (hB.out.trans (hbut.toBelow hB.out.size (fun k hk e => by have := (hold.out k e).1; omega)))
      replace hL2 := Lib.hid hL2
      clear hAd hbut hold m0 m1 m2 m3 m4 m5 hL hB
      go_wp2_with fail
      go_roundg (n - (i + 1))
      case measure => omega
      case rel => exact ⟨i + 1, u2, by go_num, by omega, Nat.le_refl _, hL2, hB2⟩
    case neg =>
      obtain rfl : i = n := by omega
      have hL2 : Hid (LamS wr w.heap.size x u (madeR Ls)) := Lib.hid (by
        have h := hL.out
        rwa [List.take_of_length_le (by rw [hn2.out]; exact Nat.le_refl _)] at h)
      clear hL hAdd hC0
      go_wp2_with fail
      go_ret
      exact ⟨_, _, rfl, hL2.out, hB.out⟩
end Go.Proofs.YtoaggmegmgdgbaaGreat
