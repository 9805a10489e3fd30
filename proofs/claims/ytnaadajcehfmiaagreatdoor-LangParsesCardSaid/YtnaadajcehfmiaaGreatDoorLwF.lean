/- lang.write. -/
import Derived.Test.YtnaadajcehfmiaaGreatDoorLwE
namespace Go.Proofs.YtnaadajcehfmiaaGreatDoor
open Go.RowKit Go.Sort Go.Maps

/-- A let as it comes in. -/
structure RLt where
  name : List Nat
  at_ : Int
instance : Inhabited RLt := ⟨⟨[], 0⟩⟩
def encRL (l : RLt) : List Value := [.string (mkS l.name), .int .i64 l.at_]
/-- Lets in memory ahead of B, to be read. -/
def LetsK (B : Nat) (W : World) (v : Value) (Ls : List RLt) : Prop :=
  ∃ A c, v = .slice A Ls.length c ∧ (0 < Ls.length → ∃ g o, A = some ⟨g, o, none⟩ ∧ g < B ∧ ∀ i, i < Ls.length → ∀ (j : Nat) (u : Value), (encRL Ls[i]!)[j]? = some u → W.cell? ⟨g, o + i * 2 + j, none⟩ = some u)
theorem LetsK.below {B : Nat} {W W' : World} {v : Value} {N : List RLt} (h : LetsK B W v N) (hb : Below B W W') : LetsK B W' v N := by
  obtain ⟨A, c, rfl, h⟩ := h
  refine ⟨A, c, rfl, fun h0 => ?_⟩
  obtain ⟨g, o, e, hg, hc⟩ := h h0
  refine ⟨g, o, e, hg, fun i hi j u hu => ?_⟩
  rw [hb.cell (show (⟨g, o + i * 2 + j, none⟩ : Addr).block < B from hg)]
  exact hc i hi j u hu
def isW (ti : Bool) : List Nat := if ti then [61] else [32, 61, 32]
def enW (ti : Bool) : List Nat := if ti then [59] else [59, 10]
def letsW (pw : Nat → Nat → List Nat → List Nat) (ti : Bool) : List RLt → List Nat → Option (List Nat)
  | [], b => some b
  | l :: r, b => if 16384 < (pw l.at_.toNat 1 (b ++ ([108, 101, 116, 32] ++ l.name ++ isW ti)) ++ enW ti).length then none else letsW pw ti r (pw l.at_.toNat 1 (b ++ ([108, 101, 116, 32] ++ l.name ++ isW ti)) ++ enW ti)
/-- What write writes. -/
def writeW (N : List RNo) (Ls : List RLt) (m : Nat) (ti : Bool) : Option (List Nat) :=
  (letsW (partW N ti N.length) ti Ls []).bind fun b => if (partW N ti N.length m 1 b).length ≤ 16384 then some (partW N ti N.length m 1 b) else none
structure WfL (n : Nat) (l : RLt) : Prop where
  byt : Byt l.name
  len : l.name.length ≤ 16384
  at_ : ∃ a : Nat, l.at_ = (a : Int) ∧ a < n
def DF : DataW Unit := (((((((((((DataW.map []).put (.int .u8 1) (.lit (.int .i64 ((50 : Nat) : Int)))).put (.int .u8 4) (.lit (.int .i64 ((50 : Nat) : Int)))).put (.int .u8 2) (.lit (.int .i64 ((51 : Nat) : Int)))).put (.int .u8 3) (.lit (.int .i64 ((52 : Nat) : Int)))).put (.int .u8 5) (.lit (.int .i64 ((53 : Nat) : Int)))).put (.int .u8 10) (.lit (.int .i64 ((54 : Nat) : Int)))).put (.int .u8 6) (.lit (.int .i64 ((55 : Nat) : Int)))).put (.int .u8 7) (.lit (.int .i64 ((56 : Nat) : Int)))).put (.int .u8 8) (.lit (.int .i64 ((57 : Nat) : Int)))).put (.int .u8 9) (.lit (.int .i64 ((58 : Nat) : Int))))
theorem at_oth {D : DataW Unit} {k k' : Int} {d z r : DataW Unit} (h : k ≠ k') (e : D.atKey (.int .u8 k) z = r) : (D.put (.int .u8 k') d).atKey (.int .u8 k) z = r := (atKey_put_other (fun h2 => h (by injection h2)) d z).trans e
theorem fnD_DF : FnD DF := by
  have i0 : IsMap (DataW.map [] : DataW Unit) := isMap_empty
  have i1 := i0.put (.int .u8 1) (.lit (.int .i64 ((50 : Nat) : Int)))
  have i2 := i1.put (.int .u8 4) (.lit (.int .i64 ((50 : Nat) : Int)))
  have i3 := i2.put (.int .u8 2) (.lit (.int .i64 ((51 : Nat) : Int)))
  have i4 := i3.put (.int .u8 3) (.lit (.int .i64 ((52 : Nat) : Int)))
  have i5 := i4.put (.int .u8 5) (.lit (.int .i64 ((53 : Nat) : Int)))
  have i6 := i5.put (.int .u8 10) (.lit (.int .i64 ((54 : Nat) : Int)))
  have i7 := i6.put (.int .u8 6) (.lit (.int .i64 ((55 : Nat) : Int)))
  have i8 := i7.put (.int .u8 7) (.lit (.int .i64 ((56 : Nat) : Int)))
  have i9 := i8.put (.int .u8 8) (.lit (.int .i64 ((57 : Nat) : Int)))
  have i10 := i9.put (.int .u8 9) (.lit (.int .i64 ((58 : Nat) : Int)))
  intro k hk1 hk2
  have hc : k = 1 ∨ k = 2 ∨ k = 3 ∨ k = 4 ∨ k = 5 ∨ k = 6 ∨ k = 7 ∨ k = 8 ∨ k = 9 ∨ k = 10 := by omega
  unfold DF
  rcases hc with rfl | rfl | rfl | rfl | rfl | rfl | rfl | rfl | rfl | rfl
  · exact at_oth (by decide) (at_oth (by decide) (at_oth (by decide) (at_oth (by decide) (at_oth (by decide) (at_oth (by decide) (at_oth (by decide) (at_oth (by decide) (at_oth (by decide) ((atKey_put_same i0 (show WideAt.IsKeyLit (Lit.int .u8 1) from trivial) _ _).trans rfl)))))))))
  · exact at_oth (by decide) (at_oth (by decide) (at_oth (by decide) (at_oth (by decide) (at_oth (by decide) (at_oth (by decide) (at_oth (by decide) ((atKey_put_same i2 (show WideAt.IsKeyLit (Lit.int .u8 2) from trivial) _ _).trans rfl)))))))
  · exact at_oth (by decide) (at_oth (by decide) (at_oth (by decide) (at_oth (by decide) (at_oth (by decide) (at_oth (by decide) ((atKey_put_same i3 (show WideAt.IsKeyLit (Lit.int .u8 3) from trivial) _ _).trans rfl))))))
  · exact at_oth (by decide) (at_oth (by decide) (at_oth (by decide) (at_oth (by decide) (at_oth (by decide) (at_oth (by decide) (at_oth (by decide) (at_oth (by decide) ((atKey_put_same i1 (show WideAt.IsKeyLit (Lit.int .u8 4) from trivial) _ _).trans rfl))))))))
  · exact at_oth (by decide) (at_oth (by decide) (at_oth (by decide) (at_oth (by decide) (at_oth (by decide) ((atKey_put_same i4 (show WideAt.IsKeyLit (Lit.int .u8 5) from trivial) _ _).trans rfl)))))
  · exact at_oth (by decide) (at_oth (by decide) (at_oth (by decide) ((atKey_put_same i6 (show WideAt.IsKeyLit (Lit.int .u8 6) from trivial) _ _).trans rfl)))
  · exact at_oth (by decide) (at_oth (by decide) ((atKey_put_same i7 (show WideAt.IsKeyLit (Lit.int .u8 7) from trivial) _ _).trans rfl))
  · exact at_oth (by decide) ((atKey_put_same i8 (show WideAt.IsKeyLit (Lit.int .u8 8) from trivial) _ _).trans rfl)
  · exact (atKey_put_same i9 (show WideAt.IsKeyLit (Lit.int .u8 9) from trivial) _ _).trans rfl
  · exact at_oth (by decide) (at_oth (by decide) (at_oth (by decide) (at_oth (by decide) ((atKey_put_same i5 (show WideAt.IsKeyLit (Lit.int .u8 10) from trivial) _ _).trans rfl))))
theorem len_cell {x nb : Nat} {A : Option Addr} {c : Nat} {w : World} (a5 : w.cell? ⟨x, 5, none⟩ = some (.slice A nb c)) : Calls Tryz.prog 61 #[.pointer (some ⟨x, 4, none⟩)] w (fun e w' => e = .returned (.int .i64 (nb : Int)) ∧ w' = w) := by
  go_enter Tryz.func61, Tryz.ntmps61
  go_wp2_with fail
  go_ret
  exact ⟨rfl, rfl⟩
set_option maxRecDepth 100000 in
set_option maxHeartbeats 8000000 in
/-- lang.write -/
theorem lWrite_any {N : List RNo} {Ls : List RLt} {vN vL : Value} {m : Nat} {w : World} (ti : Bool) (hWf : WfN N) (hWL : ∀ i, i < Ls.length → WfL N.length Ls[i]!) (hm : m < N.length) (hlen : N.length ≤ 4096) (hlenL : Ls.length ≤ 4096) (hN : NodesK w.heap.size w vN N) (hL : LetsK w.heap.size w vL Ls) (hA : AsT w) :
    Calls Tryz.prog 35 #[.agg #[vN, vL, .int .i64 (m : Int)], .bool ti] w (fun e w' => ∃ s : ByteArray, e = .returned (.tuple #[.string s, .bool (writeW N Ls m ti).isSome]) ∧ (∀ t, writeW N Ls m ti = some t → s = mkS t ∧ Byt t ∧ t.length ≤ 16384) ∧ Below w.heap.size w w') := by
  have hmm := @run_makeMap Tryz.prog
  have hTC := trC_of hA ti
  have hPW : ∀ (x gmm : Nat), PWc w.heap.size x gmm DF vN vL (m : Int) ti w (partW N ti N.length) (fun k => k < N.length ∧ k < N.length) := fun x gmm => part_all fnD_DF hWf hN hTC hlen N.length (by omega)
  obtain ⟨pw, hpw⟩ : ∃ p, p = partW N ti N.length := ⟨_, rfl⟩
  obtain ⟨RW, hRW⟩ : ∃ r, r = writeW N Ls m ti := ⟨_, rfl⟩
  have hRW2 : RW = (letsW pw ti Ls []).bind fun b => if (pw m 1 b).length ≤ 16384 then some (pw m 1 b) else none := by rw [hRW, hpw]; rfl
  rw [← hpw] at hPW
  rw [← hRW]
  obtain ⟨lN, hlN⟩ : ∃ n, n = N.length := ⟨_, rfl⟩
  rw [← hlN] at hPW hWL hm
  obtain ⟨AL, cL, hvL, hLc⟩ := hL
  obtain ⟨nl, hnl⟩ : ∃ n, n = Ls.length := ⟨_, rfl⟩
  rw [← hnl] at hvL hLc hWL hlenL
  subst hvL
  clear hpw hRW hWf hlen hN hA hTC hlN
  obtain ⟨lw, hlw⟩ : ∃ f : List RLt → List Nat → Option (List Nat), f = letsW pw ti := ⟨_, rfl⟩
  have hlw1 : Hid (∀ l r b, lw (l :: r) b = if 16384 < (pw l.at_.toNat 1 (b ++ ([108, 101, 116, 32] ++ l.name ++ isW ti)) ++ enW ti).length then none else lw r (pw l.at_.toNat 1 (b ++ ([108, 101, 116, 32] ++ l.name ++ isW ti)) ++ enW ti)) := Lib.hid (fun l r b => by rw [hlw]; rfl)
  have hlw0 : Hid (∀ b, lw [] b = some b) := Lib.hid (fun b => by rw [hlw]; rfl)
  rw [← hlw] at hRW2
  replace hRW2 := Lib.hid hRW2
  replace hlw := Lib.hid hlw
  replace hnl := Lib.hid hnl
  replace hPW := Lib.hid hPW
  replace hLc := Lib.hid hLc
  replace hWL := Lib.hid hWL
  obtain ⟨OB, hOB⟩ : ∃ o, o = Obj.cells #[vN, .slice AL nl cL, .int .i64 (m : Int)] 25 (0, 0) := ⟨_, rfl⟩
  have hb1 : Below w.heap.size w (w.alloc OB) := (Below.refl _ w).alloc (Nat.le_refl _) _
  have kp : Blk (w.alloc OB) w.heap.size 25 #[vN, .slice AL nl cL, .int .i64 (m : Int)] := by rw [hOB]; exact Blk.new w _ _
  generalize hW : w.alloc OB = w1 at hb1 kp
  have hM0 : (w1.alloc (.map #[] 0)).ownsMap Tryz.prog 50 fnElem w1.heap.size 0 (.map []) := World.ownsMap_made _ _ _ _
  have hk1 := keyOf_int_mk Tryz.underlying50 (a := 1) (by decide)
  obtain ⟨v1, hr1, hM1, hg1⟩ := hM0.update (val := .func (.func 50) #[] #[]) lawU8 Tryz.underlying86 (by unfold maxLen; omega) hk1 (show fnElem (.func (.func 50) #[] #[]) = some (.lit (.int .i64 ((50 : Nat) : Int)), []) from rfl)
  have hk2 := keyOf_int_mk Tryz.underlying50 (a := 4) (by decide)
  obtain ⟨v2, hr2, hM2, hg2⟩ := hM1.update (val := .func (.func 50) #[] #[]) lawU8 Tryz.underlying86 (by unfold maxLen; omega) hk2 (show fnElem (.func (.func 50) #[] #[]) = some (.lit (.int .i64 ((50 : Nat) : Int)), []) from rfl)
  have hk3 := keyOf_int_mk Tryz.underlying50 (a := 2) (by decide)
  obtain ⟨v3, hr3, hM3, hg3⟩ := hM2.update (val := .func (.func 51) #[] #[]) lawU8 Tryz.underlying86 (by unfold maxLen; omega) hk3 (show fnElem (.func (.func 51) #[] #[]) = some (.lit (.int .i64 ((51 : Nat) : Int)), []) from rfl)
  have hk4 := keyOf_int_mk Tryz.underlying50 (a := 3) (by decide)
  obtain ⟨v4, hr4, hM4, hg4⟩ := hM3.update (val := .func (.func 52) #[] #[]) lawU8 Tryz.underlying86 (by unfold maxLen; omega) hk4 (show fnElem (.func (.func 52) #[] #[]) = some (.lit (.int .i64 ((52 : Nat) : Int)), []) from rfl)
  have hk5 := keyOf_int_mk Tryz.underlying50 (a := 5) (by decide)
  obtain ⟨v5, hr5, hM5, hg5⟩ := hM4.update (val := .func (.func 53) #[] #[]) lawU8 Tryz.underlying86 (by unfold maxLen; omega) hk5 (show fnElem (.func (.func 53) #[] #[]) = some (.lit (.int .i64 ((53 : Nat) : Int)), []) from rfl)
  have hk6 := keyOf_int_mk Tryz.underlying50 (a := 10) (by decide)
  obtain ⟨v6, hr6, hM6, hg6⟩ := hM5.update (val := .func (.func 54) #[] #[]) lawU8 Tryz.underlying86 (by unfold maxLen; omega) hk6 (show fnElem (.func (.func 54) #[] #[]) = some (.lit (.int .i64 ((54 : Nat) : Int)), []) from rfl)
  have hk7 := keyOf_int_mk Tryz.underlying50 (a := 6) (by decide)
  obtain ⟨v7, hr7, hM7, hg7⟩ := hM6.update (val := .func (.func 55) #[] #[]) lawU8 Tryz.underlying86 (by unfold maxLen; omega) hk7 (show fnElem (.func (.func 55) #[] #[]) = some (.lit (.int .i64 ((55 : Nat) : Int)), []) from rfl)
  have hk8 := keyOf_int_mk Tryz.underlying50 (a := 7) (by decide)
  obtain ⟨v8, hr8, hM8, hg8⟩ := hM7.update (val := .func (.func 56) #[] #[]) lawU8 Tryz.underlying86 (by unfold maxLen; omega) hk8 (show fnElem (.func (.func 56) #[] #[]) = some (.lit (.int .i64 ((56 : Nat) : Int)), []) from rfl)
  have hk9 := keyOf_int_mk Tryz.underlying50 (a := 8) (by decide)
  obtain ⟨v9, hr9, hM9, hg9⟩ := hM8.update (val := .func (.func 57) #[] #[]) lawU8 Tryz.underlying86 (by unfold maxLen; omega) hk9 (show fnElem (.func (.func 57) #[] #[]) = some (.lit (.int .i64 ((57 : Nat) : Int)), []) from rfl)
  have hk10 := keyOf_int_mk Tryz.underlying50 (a := 9) (by decide)
  obtain ⟨v10, hr10, hM10, hg10⟩ := hM9.update (val := .func (.func 58) #[] #[]) lawU8 Tryz.underlying86 (by unfold maxLen; omega) hk10 (show fnElem (.func (.func 58) #[] #[]) = some (.lit (.int .i64 ((58 : Nat) : Int)), []) from rfl)
  obtain ⟨gmm, hgk⟩ : ∃ g, g = w1.heap.size := ⟨_, rfl⟩
  have hlw1' := hb1.size
  have hBk : Below w.heap.size w v10 := by
    have b0 : Below w.heap.size w (w1.alloc (.map #[] 0)) := hb1.trans ((Below.refl _ w1).alloc hlw1' _)
    have b1 : Below w.heap.size w v1 := b0.grown hg1 b0.size (fun k hk => by injection hk with hk; omega)
    have b2 : Below w.heap.size w v2 := b1.grown hg2 b1.size (fun k hk => by injection hk with hk; omega)
    have b3 : Below w.heap.size w v3 := b2.grown hg3 b2.size (fun k hk => by injection hk with hk; omega)
    have b4 : Below w.heap.size w v4 := b3.grown hg4 b3.size (fun k hk => by injection hk with hk; omega)
    have b5 : Below w.heap.size w v5 := b4.grown hg5 b4.size (fun k hk => by injection hk with hk; omega)
    have b6 : Below w.heap.size w v6 := b5.grown hg6 b5.size (fun k hk => by injection hk with hk; omega)
    have b7 : Below w.heap.size w v7 := b6.grown hg7 b6.size (fun k hk => by injection hk with hk; omega)
    have b8 : Below w.heap.size w v8 := b7.grown hg8 b7.size (fun k hk => by injection hk with hk; omega)
    have b9 : Below w.heap.size w v9 := b8.grown hg9 b8.size (fun k hk => by injection hk with hk; omega)
    have b10 : Below w.heap.size w v10 := b9.grown hg10 b9.size (fun k hk => by injection hk with hk; omega)
    exact b10
  have hkp : Blk v10 w.heap.size 25 #[vN, .slice AL nl cL, .int .i64 (m : Int)] := by
    have hl := Blk.lt kp
    have e0 : (w1.alloc (.map #[] 0)).heap[w.heap.size]? = w1.heap[w.heap.size]? := Below.heap_alloc w1 _ _ hl
    have s0 : w1.heap.size < (w1.alloc (.map #[] 0)).heap.size := by rw [World.size_alloc]; omega
    unfold Blk at kp ⊢
    have e1 : v1.heap[w.heap.size]? = (w1.alloc (.map #[] 0)).heap[w.heap.size]? := hg1.block _ (by omega) (fun e => by injection e with e; omega)
    have s1 := Nat.lt_of_lt_of_le s0 hg1.size
    have e2 : v2.heap[w.heap.size]? = (v1).heap[w.heap.size]? := hg2.block _ (by omega) (fun e => by injection e with e; omega)
    have s2 := Nat.lt_of_lt_of_le s1 hg2.size
    have e3 : v3.heap[w.heap.size]? = (v2).heap[w.heap.size]? := hg3.block _ (by omega) (fun e => by injection e with e; omega)
    have s3 := Nat.lt_of_lt_of_le s2 hg3.size
    have e4 : v4.heap[w.heap.size]? = (v3).heap[w.heap.size]? := hg4.block _ (by omega) (fun e => by injection e with e; omega)
    have s4 := Nat.lt_of_lt_of_le s3 hg4.size
    have e5 : v5.heap[w.heap.size]? = (v4).heap[w.heap.size]? := hg5.block _ (by omega) (fun e => by injection e with e; omega)
    have s5 := Nat.lt_of_lt_of_le s4 hg5.size
    have e6 : v6.heap[w.heap.size]? = (v5).heap[w.heap.size]? := hg6.block _ (by omega) (fun e => by injection e with e; omega)
    have s6 := Nat.lt_of_lt_of_le s5 hg6.size
    have e7 : v7.heap[w.heap.size]? = (v6).heap[w.heap.size]? := hg7.block _ (by omega) (fun e => by injection e with e; omega)
    have s7 := Nat.lt_of_lt_of_le s6 hg7.size
    have e8 : v8.heap[w.heap.size]? = (v7).heap[w.heap.size]? := hg8.block _ (by omega) (fun e => by injection e with e; omega)
    have s8 := Nat.lt_of_lt_of_le s7 hg8.size
    have e9 : v9.heap[w.heap.size]? = (v8).heap[w.heap.size]? := hg9.block _ (by omega) (fun e => by injection e with e; omega)
    have s9 := Nat.lt_of_lt_of_le s8 hg9.size
    have e10 : v10.heap[w.heap.size]? = (v9).heap[w.heap.size]? := hg10.block _ (by omega) (fun e => by injection e with e; omega)
    have s10 := Nat.lt_of_lt_of_le s9 hg10.size
    rw [e10, e9, e8, e7, e6, e5, e4, e3, e2, e1, e0, kp]
  rw [← hgk] at hM10 hr1 hr2 hr3 hr4 hr5 hr6 hr7 hr8 hr9 hr10
  have hgB : w.heap.size ≤ gmm := by rw [hgk]; exact hlw1'
  have hms2 : w1.heap.size = gmm := hgk.symm
  replace hgk := Lib.hid hgk
  have hMM : Hid (v10.ownsMap Tryz.prog 50 fnElem gmm 10 DF) := Lib.hid hM10
  replace hgB := Lib.hid hgB
  replace hBk := Lib.hid hBk
  replace hkp := Lib.hid hkp
  replace hW := Lib.hid hW
  replace hOB := Lib.hid hOB
  have p0 : w1.cell? ⟨w.heap.size, 0, none⟩ = some (vN) := kp.cell 0
  have p1 : w1.cell? ⟨w.heap.size, 1, none⟩ = some (.slice AL nl cL) := kp.cell 1
  have p2 : w1.cell? ⟨w.heap.size, 2, none⟩ = some (.int .i64 (m : Int)) := kp.cell 2
  clear hM0 hM10 hM1 hk1 hg1 hM2 hk2 hg2 hM3 hk3 hg3 hM4 hk4 hg4 hM5 hk5 hg5 hM6 hk6 hg6 hM7 hk7 hg7 hM8 hk8 hg8 hM9 hk9 hg9 hk10 hg10 hb1 kp
  have qs : ∀ W : World, Below w.heap.size w1 W → True := fun _ _ => trivial
  clear qs
  cases ti
  case false =>
    go_enter Tryz.func35, Tryz.ntmps35
    go_upto_region 1 with fail
    rw [← hOB.out, hW.out]
    go_upto_region 2 with fail
    have kx := Blk.new v10 92 #[vN, .slice AL nl cL, .int .i64 (m : Int), .bool false, .pointer none, .slice none 0 0, .map (some gmm)]
    have hWx : WrS w.heap.size v10.heap.size gmm DF vN (.slice AL nl cL) (m : Int) false [] (v10.alloc (.cells #[vN, .slice AL nl cL, .int .i64 (m : Int), .bool false, .pointer none, .slice none 0 0, .map (some gmm)] 92)) := ⟨.pointer none, .slice none 0 0, .inl rfl, kx, ⟨rfl, .inl ⟨rfl, rfl⟩⟩, hMM.out.alloc _, hBk.out.size, hgB.out, fun b hb => absurd hb (by simp)⟩
    have hBx : Below w.heap.size w (v10.alloc (.cells #[vN, .slice AL nl cL, .int .i64 (m : Int), .bool false, .pointer none, .slice none 0 0, .map (some gmm)] 92)) := hBk.out.alloc hBk.out.size _
    have hkx : Blk (v10.alloc (.cells #[vN, .slice AL nl cL, .int .i64 (m : Int), .bool false, .pointer none, .slice none 0 0, .map (some gmm)] 92)) w.heap.size 25 #[vN, .slice AL nl cL, .int .i64 (m : Int)] := hkp.out.below ((Below.refl _ v10).alloc (Nat.le_refl _) _)
    have hne : w.heap.size ≠ v10.heap.size := fun e => by
      have := Blk.lt hkp.out
      omega
    generalize hX : v10.alloc (.cells #[vN, .slice AL nl cL, .int .i64 (m : Int), .bool false, .pointer none, .slice none 0 0, .map (some gmm)] 92) = wx at kx hWx hBx hkx ⊢
    generalize hxx : v10.heap.size = x at kx hWx hne ⊢
    replace hX := Lib.hid hX
    replace hxx := Lib.hid hxx
    replace hWx := Lib.hid hWx
    replace hBx := Lib.hid hBx
    replace hne := Lib.hid hne
    have l0 : wx.cell? ⟨w.heap.size, 0, none⟩ = some (vN) := hkx.cell 0
    have l1 : wx.cell? ⟨w.heap.size, 1, none⟩ = some (.slice AL nl cL) := hkx.cell 1
    have l2 : wx.cell? ⟨w.heap.size, 2, none⟩ = some (.int .i64 (m : Int)) := hkx.cell 2
    replace hkx := Lib.hid hkx
    obtain ⟨bp, hbp⟩ : ∃ b, b = w.heap.size := ⟨_, rfl⟩
    clear kx hr1 hr2 hr3 hr4 hr5 hr6 hr7 hr8 hr9 hr10 hmm hms2 p0 p1 p2
    have cPx := Lib.hid (hPW.out x gmm)
    clear hPW hbp bp
    go_wp2_with fail
    go_loopg [21] nl (fun kx s21 wr => ∃ (i : Nat) (b : List Nat), s21 = .int .i64 (i : Int) ∧ Hid (i + kx = nl) ∧ Hid (WrS w.heap.size x gmm DF vN (.slice AL nl cL) (m : Int) false b wr) ∧ Hid (Below w.heap.size w wr) ∧ Hid (TwU x wx wr) ∧ Hid (b.length ≤ 16384) ∧ Hid (lw (Ls.drop i) b = lw Ls []))
    case atStart => exact ⟨0, [], rfl, Lib.hid (by omega), hWx, hBx, Lib.hid (TwU.refl _ _), Lib.hid (by simp), Lib.hid rfl⟩
    case round =>
      obtain ⟨i, b, rfl, hik, hR, hB, hT, hbl, hLw⟩ := hrel
      have hkr := Lib.hid (hT.out.blk hkx.out (by decide) hne.out)
      have l0 : wr.cell? ⟨w.heap.size, 0, none⟩ = some (vN) := hkr.out.cell 0
      have l1 : wr.cell? ⟨w.heap.size, 1, none⟩ = some (.slice AL nl cL) := hkr.out.cell 1
      have l2 : wr.cell? ⟨w.heap.size, 2, none⟩ = some (.int .i64 (m : Int)) := hkr.out.cell 2
      by_cases hin : i < nl
      case pos =>
        obtain ⟨g, o, hAL, hgB2, hLc2⟩ := hLc.out (by omega)
        subst hAL
        obtain ⟨lt, hlt⟩ : ∃ l, l = Ls[i]! := ⟨_, rfl⟩
        have hcl := fun (j : Nat) (u : Value) (hu : (encRL lt)[j]? = some u) => (hB.out.cell (show (⟨g, o + i * 2 + j, none⟩ : Addr).block < w.heap.size from hgB2)).trans (hLc2 i hin j u (by rw [← hlt]; exact hu))
        have c0 : wr.cell? ⟨g, o + i * 2, none⟩ = some (.string (mkS lt.name)) := hcl 0 _ rfl
        have c1 : wr.cell? ⟨g, o + i * 2 + 1, none⟩ = some (.int .i64 lt.at_) := hcl 1 _ rfl
        have hwl := hWL.out i hin
        rw [← hlt] at hwl
        obtain ⟨la, hla, hla2⟩ := hwl.at_
        have hnm := Lib.hid hwl.byt
        have hnl2 := Lib.hid hwl.len
        have hstep : Hid (lw (Ls.drop i) b = if 16384 < (pw la 1 (b ++ ([108, 101, 116, 32] ++ lt.name ++ isW false)) ++ enW false).length then none else lw (Ls.drop (i + 1)) (pw la 1 (b ++ ([108, 101, 116, 32] ++ lt.name ++ isW false)) ++ enW false)) := Lib.hid (by
          have hd : Ls.drop i = lt :: Ls.drop (i + 1) := by
            rw [hlt, getElem!_pos Ls i (by have := hnl.out; omega)]
            exact List.drop_eq_getElem_cons (by have := hnl.out; omega)
          rw [hd, hlw1.out, hla]
          rfl)
        rw [hla] at c1
        replace hla := Lib.hid hla
        replace hla2 := Lib.hid hla2
        replace hlt := Lib.hid hlt
        have kb := Lib.hid (Blk.new wr 54 #[.string (mkS lt.name), .int .i64 (la : Int)])
        have hR1 := Lib.hid (hR.out.alloc (.cells #[.string (mkS lt.name), .int .i64 (la : Int)] 54))
        have hB1 := Lib.hid (hB.out.alloc hB.out.size (.cells #[.string (mkS lt.name), .int .i64 (la : Int)] 54))
        have hT1 := Lib.hid (hT.out.trans (TwU.below ((Below.refl _ wr).alloc (Nat.le_refl _) (.cells #[.string (mkS lt.name), .int .i64 (la : Int)] 54))))
        have hxb : Hid (wr.heap.size ≠ x) := Lib.hid (by have := hR.out.lt; omega)
        clear hcl hLc2 hgB2 hwl
        go_upto_region 8 with fail
        generalize hW2 : wr.alloc (.cells #[.string (mkS lt.name), .int .i64 (la : Int)] 54) = w2 at kb hR1 hB1 hT1 ⊢
        generalize hb2 : wr.heap.size = bx at kb hxb ⊢
        replace hW2 := Lib.hid hW2
        replace hb2 := Lib.hid hb2
        have n0 : ∀ d os, (grow (redrawn w2 d) os).cell? ⟨bx, 0, none⟩ = some (.string (mkS lt.name)) := cell_regrown (kb.out.cell 0)
        have hszN : (mkS lt.name).size ≤ 16384 := by rw [mkS_size]; exact hnl2.out
        have hsz1 : ¬ (9223372036854775807 < 4 + (mkS lt.name).size) := by omega
        have hsz2 : ¬ (9223372036854775807 < 4 + (mkS lt.name).size + 3) := by omega
        have hsz3 : ¬ (9223372036854775807 < (⟨#[108, 101, 116, 32]⟩ ++ mkS lt.name : ByteArray).size + 3) := by
          rw [ByteArray.size_append, show (⟨#[108, 101, 116, 32]⟩ : ByteArray).size = 4 from rfl]
          omega
        have es : mkS ([108, 101, 116, 32] ++ lt.name ++ isW false) = (⟨#[108, 101, 116, 32]⟩ ++ mkS lt.name ++ ⟨#[32, 61, 32]⟩) := by
          rw [← mkS_append, ← mkS_append]
          rfl
        have ebyt : Byt ([108, 101, 116, 32] ++ lt.name ++ isW false) := by
          intro y hy
          rcases List.mem_append.1 hy with hy | hy
          · rcases List.mem_append.1 hy with hy | hy
            · exact (show ∀ z, z ∈ [108, 101, 116, 32] → z < 256 by decide) y hy
            · exact hnm.out y hy
          · exact (show ∀ z, z ∈ isW false → z < 256 by decide) y hy
        have elen : ([108, 101, 116, 32] ++ lt.name ++ isW false).length ≤ 16400 := by
          have := hnl2.out
          simp [isW]
          omega
        have cS0 : Hid (∀ W, Below w2.heap.size w2 W → Calls Tryz.prog 59 #[.pointer (some ⟨x, 4, none⟩), .string (⟨#[108, 101, 116, 32]⟩ ++ mkS lt.name ++ ⟨#[32, 61, 32]⟩)] W (fun e w' => (∃ v, e = .returned v) ∧ WrS w.heap.size x gmm DF vN (.slice (some ⟨g, o, none⟩) nl cL) (m : Int) false (b ++ ([108, 101, 116, 32] ++ lt.name ++ isW false)) w' ∧ Below w.heap.size W w' ∧ TwU x W w')) := Lib.hid (fun W hW => by
          have := wWriteString (hR1.out.below hW) _ ebyt (by have := hbl.out; omega)
          rw [es] at this
          exact this)
        replace es := Lib.hid es
        replace elen := Lib.hid elen
        clear ebyt
        refine wp_region_tail_below 8 (by kernel_rfl) (by kernel_rfl) ?_
        simp only [List.take_succ_cons, List.take_zero, List.drop_succ_cons, List.drop_zero]
        iterate 8 (quiet_step (fail))
        refine wpQuiet_nil ?_
        intro w3 hb3
        have cS := Lib.hid (cS0.out w3 hb3)
        replace kb := Lib.hid (Blk.below kb.out hb3)
        replace hB1 := Lib.hid (hB1.out.trans (hb3.mono hB1.out.size))
        replace hT1 := Lib.hid (hT1.out.trans (TwU.below hb3))
        clear hb3 n0 hszN hsz1 hsz2 hsz3 cS0
        go_wp2_with fail
        refine cS.out.mono ?_
        rintro en w4 ⟨⟨v, rfl⟩, h4, hB4, hT4⟩
        clear cS
        replace kb := Lib.hid (hT4.blk kb.out (by decide) hxb.out)
        replace hB1 := Lib.hid (hB1.out.trans hB4)
        replace hT1 := Lib.hid (hT1.out.trans hT4)
        clear hB4 hT4
        have n1 : w4.cell? ⟨bx, 1, none⟩ = some (.int .i64 (la : Int)) := kb.out.cell 1
        have cP := Lib.hid (cPx.out.call la 1 _ w4 ⟨hla2.out, hla2.out⟩ (by omega) h4 hB1.out (by have := elen.out; have := hbl.out; rw [List.length_append]; omega))
        have hPl : Hid ((pw la 1 (b ++ ([108, 101, 116, 32] ++ lt.name ++ isW false))).length ≤ 80000) := Lib.hid (by
          have h1 := elen.out
          have h2 := hbl.out
          have h3 : (b ++ ([108, 101, 116, 32] ++ lt.name ++ isW false)).length ≤ 40000 := by rw [List.length_append]; omega
          have h4 := cPx.out.len la 1 (b ++ ([108, 101, 116, 32] ++ lt.name ++ isW false)) ⟨hla2.out, hla2.out⟩ (by omega)
          omega)
        obtain ⟨b5, hb5⟩ : ∃ b5, b5 = pw la 1 (b ++ ([108, 101, 116, 32] ++ lt.name ++ isW false)) := ⟨_, rfl⟩
        rw [← hb5] at cP hPl hstep
        replace hb5 := Lib.hid hb5
        clear h4
        go_wp2_with fail
        refine cP.out.mono ?_
        rintro en w5 ⟨rfl, h5, hB5, hT5⟩
        clear cP n1
        replace hB1 := Lib.hid (hB1.out.trans hB5)
        replace hT1 := Lib.hid (hT1.out.trans hT5)
        clear hB5 hT5
        have cE := Lib.hid (wWriteString h5 (enW false) (by unfold Byt; decide) (by have := hPl.out; have e2 : (enW false).length ≤ 2 := (by decide); omega))
        have ee : mkS (enW false) = (⟨#[59, 10]⟩ : ByteArray) := rfl
        rw [ee] at cE
        clear h5 ee
        go_wp2_with fail
        refine cE.out.mono ?_
        rintro en w6 ⟨⟨v6, rfl⟩, h6, hB6, hT6⟩
        clear cE
        replace hB1 := Lib.hid (hB1.out.trans hB6)
        replace hT1 := Lib.hid (hT1.out.trans hT6)
        clear hB6 hT6
        obtain ⟨b6, hb6⟩ : ∃ b6, b6 = b5 ++ enW false := ⟨_, rfl⟩
        rw [← hb6] at hstep h6
        replace hb6 := Lib.hid hb6
        have cLn := wLen h6
        obtain ⟨nb, hnb⟩ : ∃ n, n = b6.length := ⟨_, rfl⟩
        rw [← hnb] at cLn
        replace cLn := Lib.hid cLn
        replace h6 := Lib.hid h6
        by_cases hlong : 16384 < b6.length
        case pos =>
          have hI : ((nb : Int) > 16384) := by omega
          have hnone : RW = none := by
            rw [hRW2.out, ← hLw.out, hstep.out, if_pos hlong]
            rfl
          subst hnone
          replace hnb := Lib.hid hnb
          clear hlong
          go_wp2_with fail
          refine cLn.out.mono ?_
          rintro en w7 ⟨rfl, rfl⟩
          go_wp2_with fail
          go_ret2
          exact ⟨_, rfl, (fun t ht => by cases ht), hB1.out⟩
        case neg =>
          have hI : ¬ ((nb : Int) > 16384) := by omega
          have hl6 : Hid (b6.length ≤ 16384) := Lib.hid (by omega)
          have hstep2 : Hid (lw (Ls.drop (i + 1)) b6 = lw Ls []) := Lib.hid (by rw [← hLw.out, hstep.out, if_neg hlong])
          replace hnb := Lib.hid hnb
          clear hlong
          go_wp2_with fail
          refine cLn.out.mono ?_
          rintro en w7 ⟨rfl, rfl⟩
          go_wp2_with fail
          go_roundg (gk - 1)
          case measure =>
            have := hik.out
            omega
          case rel => exact ⟨i + 1, b6, by simp, Lib.hid (by have := hik.out; omega), h6, hB1, hT1, hl6, hstep2⟩
      case neg =>
        have hi : i = nl := by have := hik.out; omega
        have hRb : RW = if (pw m 1 b).length ≤ 16384 then some (pw m 1 b) else none := by
          rw [hRW2.out, ← hLw.out, List.drop_eq_nil_of_le (by have := hnl.out; omega), hlw0.out]
          rfl
        replace hRb := Lib.hid hRb
        subst hi
        have cP := Lib.hid (cPx.out.call m 1 b wr ⟨hm, hm⟩ (by omega) hR.out hB.out (by have := hbl.out; omega))
        obtain ⟨b5, hb5⟩ : ∃ b5, b5 = pw m 1 b := ⟨_, rfl⟩
        rw [← hb5] at cP hRb
        replace hb5 := Lib.hid hb5
        go_wp2_with fail
        refine cP.out.mono ?_
        rintro en w5 ⟨rfl, h5, hB5, hT5⟩
        clear cP
        replace hB := Lib.hid (hB.out.trans hB5)
        clear hB5 hT5
        have hbyt : Hid (Byt b5) := Lib.hid (by
          obtain ⟨ad, vB, had, hk, hrow, hM, h1, h2, h3⟩ := h5
          exact h3)
        obtain ⟨v5, hv5⟩ : ∃ v, w5.cell? ⟨x, 5, none⟩ = some v := by
          obtain ⟨ad, vB, had, hk, -⟩ := h5
          exact ⟨_, hk.cell 5⟩
        obtain ⟨nb, hnb⟩ : ∃ n, n = b5.length := ⟨_, rfl⟩
        obtain ⟨A5, c5, hv5f⟩ : ∃ A c, v5 = .slice A nb c := by
          obtain ⟨ad, vB, had, hk, hrow, -⟩ := h5
          have : vB = v5 := by
            have := (hk.cell 5).symm.trans hv5
            injection this
          subst this
          obtain ⟨AB, cB, e, -⟩ := own_form hrow
          exact ⟨AB, cB, by rw [e, hnb]⟩
        subst hv5f
        have cSt := Lib.hid (fun W (hb : Below w5.heap.size w5 W) => w_String (h5.below hb) (show W.cell? ⟨x, 5, none⟩ = some (.slice A5 nb c5) from (hb.cell (show (⟨x, 5, none⟩ : Addr).block < w5.heap.size from h5.lt.1)).trans hv5))
        have cLn : Hid (∀ W, W.cell? ⟨x, 5, none⟩ = some (.slice A5 nb c5) → Calls Tryz.prog 61 #[.pointer (some ⟨x, 4, none⟩)] W (fun e w' => e = .returned (.int .i64 (nb : Int)) ∧ w' = W)) := Lib.hid (fun W hW => len_cell hW)
        have hd0 : Below w5.heap.size w5 w5.drew := (Below.refl _ w5).drew
        replace h5 := Lib.hid h5
        replace hnb := Lib.hid hnb
        go_upto_region 15 with fail
        go_region_held3 (fun w' => w'.cell? ⟨x, 5, none⟩ = some (.slice A5 nb c5)) (go_keep)
          (first
            | (go_at_call 61; (with_reducible refine Calls.mono (cLn.out _ (by assumption)) ?_); rintro en w7 ⟨rfl, rfl⟩)
            | (go_at_call 62; (with_reducible refine Calls.mono (cSt.out _ hd0) ?_); rintro en w8 ⟨rfl, hB8, hc8⟩))
        have hd : decide ((nb : Int) ≤ 16384) = RW.isSome := by
          have e1 := hnb.out
          rw [hRb.out]
          by_cases hlong : b5.length ≤ 16384
          · rw [if_pos hlong]
            simp
            omega
          · rw [if_neg hlong]
            simp
            omega
        have hfin : Hid (∀ t, RW = some t → mkS b5 = mkS t ∧ Byt t ∧ t.length ≤ 16384) := Lib.hid (fun t ht => by
          have hR9 := hRb.out
          rw [ht] at hR9
          by_cases hlong : b5.length ≤ 16384
          · rw [if_pos hlong] at hR9
            injection hR9 with hR9
            subst hR9
            exact ⟨rfl, hbyt.out, hlong⟩
          · rw [if_neg hlong] at hR9
            cases hR9)
        replace hB := Lib.hid (hB.out.trans ((hd0.mono hB.out.size).trans hB8))
        clear hB8 hc8
        replace hd := Lib.hid hd
        go_wp2_with fail
        go_ret2
        exact ⟨mkS b5, by rw [hd.out]; rfl, hfin.out, hB.out⟩
  case true =>
    go_enter Tryz.func35, Tryz.ntmps35
    go_upto_region 1 with fail
    rw [← hOB.out, hW.out]
    go_upto_region 2 with fail
    have kx := Blk.new v10 92 #[vN, .slice AL nl cL, .int .i64 (m : Int), .bool true, .pointer none, .slice none 0 0, .map (some gmm)]
    have hWx : WrS w.heap.size v10.heap.size gmm DF vN (.slice AL nl cL) (m : Int) true [] (v10.alloc (.cells #[vN, .slice AL nl cL, .int .i64 (m : Int), .bool true, .pointer none, .slice none 0 0, .map (some gmm)] 92)) := ⟨.pointer none, .slice none 0 0, .inl rfl, kx, ⟨rfl, .inl ⟨rfl, rfl⟩⟩, hMM.out.alloc _, hBk.out.size, hgB.out, fun b hb => absurd hb (by simp)⟩
    have hBx : Below w.heap.size w (v10.alloc (.cells #[vN, .slice AL nl cL, .int .i64 (m : Int), .bool true, .pointer none, .slice none 0 0, .map (some gmm)] 92)) := hBk.out.alloc hBk.out.size _
    have hkx : Blk (v10.alloc (.cells #[vN, .slice AL nl cL, .int .i64 (m : Int), .bool true, .pointer none, .slice none 0 0, .map (some gmm)] 92)) w.heap.size 25 #[vN, .slice AL nl cL, .int .i64 (m : Int)] := hkp.out.below ((Below.refl _ v10).alloc (Nat.le_refl _) _)
    have hne : w.heap.size ≠ v10.heap.size := fun e => by
      have := Blk.lt hkp.out
      omega
    generalize hX : v10.alloc (.cells #[vN, .slice AL nl cL, .int .i64 (m : Int), .bool true, .pointer none, .slice none 0 0, .map (some gmm)] 92) = wx at kx hWx hBx hkx ⊢
    generalize hxx : v10.heap.size = x at kx hWx hne ⊢
    replace hX := Lib.hid hX
    replace hxx := Lib.hid hxx
    replace hWx := Lib.hid hWx
    replace hBx := Lib.hid hBx
    replace hne := Lib.hid hne
    have l0 : wx.cell? ⟨w.heap.size, 0, none⟩ = some (vN) := hkx.cell 0
    have l1 : wx.cell? ⟨w.heap.size, 1, none⟩ = some (.slice AL nl cL) := hkx.cell 1
    have l2 : wx.cell? ⟨w.heap.size, 2, none⟩ = some (.int .i64 (m : Int)) := hkx.cell 2
    replace hkx := Lib.hid hkx
    obtain ⟨bp, hbp⟩ : ∃ b, b = w.heap.size := ⟨_, rfl⟩
    clear kx hr1 hr2 hr3 hr4 hr5 hr6 hr7 hr8 hr9 hr10 hmm hms2 p0 p1 p2
    have cPx := Lib.hid (hPW.out x gmm)
    clear hPW hbp bp
    go_wp2_with fail
    go_loopg [21] nl (fun kx s21 wr => ∃ (i : Nat) (b : List Nat), s21 = .int .i64 (i : Int) ∧ Hid (i + kx = nl) ∧ Hid (WrS w.heap.size x gmm DF vN (.slice AL nl cL) (m : Int) true b wr) ∧ Hid (Below w.heap.size w wr) ∧ Hid (TwU x wx wr) ∧ Hid (b.length ≤ 16384) ∧ Hid (lw (Ls.drop i) b = lw Ls []))
    case atStart => exact ⟨0, [], rfl, Lib.hid (by omega), hWx, hBx, Lib.hid (TwU.refl _ _), Lib.hid (by simp), Lib.hid rfl⟩
    case round =>
      obtain ⟨i, b, rfl, hik, hR, hB, hT, hbl, hLw⟩ := hrel
      have hkr := Lib.hid (hT.out.blk hkx.out (by decide) hne.out)
      have l0 : wr.cell? ⟨w.heap.size, 0, none⟩ = some (vN) := hkr.out.cell 0
      have l1 : wr.cell? ⟨w.heap.size, 1, none⟩ = some (.slice AL nl cL) := hkr.out.cell 1
      have l2 : wr.cell? ⟨w.heap.size, 2, none⟩ = some (.int .i64 (m : Int)) := hkr.out.cell 2
      by_cases hin : i < nl
      case pos =>
        obtain ⟨g, o, hAL, hgB2, hLc2⟩ := hLc.out (by omega)
        subst hAL
        obtain ⟨lt, hlt⟩ : ∃ l, l = Ls[i]! := ⟨_, rfl⟩
        have hcl := fun (j : Nat) (u : Value) (hu : (encRL lt)[j]? = some u) => (hB.out.cell (show (⟨g, o + i * 2 + j, none⟩ : Addr).block < w.heap.size from hgB2)).trans (hLc2 i hin j u (by rw [← hlt]; exact hu))
        have c0 : wr.cell? ⟨g, o + i * 2, none⟩ = some (.string (mkS lt.name)) := hcl 0 _ rfl
        have c1 : wr.cell? ⟨g, o + i * 2 + 1, none⟩ = some (.int .i64 lt.at_) := hcl 1 _ rfl
        have hwl := hWL.out i hin
        rw [← hlt] at hwl
        obtain ⟨la, hla, hla2⟩ := hwl.at_
        have hnm := Lib.hid hwl.byt
        have hnl2 := Lib.hid hwl.len
        have hstep : Hid (lw (Ls.drop i) b = if 16384 < (pw la 1 (b ++ ([108, 101, 116, 32] ++ lt.name ++ isW true)) ++ enW true).length then none else lw (Ls.drop (i + 1)) (pw la 1 (b ++ ([108, 101, 116, 32] ++ lt.name ++ isW true)) ++ enW true)) := Lib.hid (by
          have hd : Ls.drop i = lt :: Ls.drop (i + 1) := by
            rw [hlt, getElem!_pos Ls i (by have := hnl.out; omega)]
            exact List.drop_eq_getElem_cons (by have := hnl.out; omega)
          rw [hd, hlw1.out, hla]
          rfl)
        rw [hla] at c1
        replace hla := Lib.hid hla
        replace hla2 := Lib.hid hla2
        replace hlt := Lib.hid hlt
        have kb := Lib.hid (Blk.new wr 54 #[.string (mkS lt.name), .int .i64 (la : Int)])
        have hR1 := Lib.hid (hR.out.alloc (.cells #[.string (mkS lt.name), .int .i64 (la : Int)] 54))
        have hB1 := Lib.hid (hB.out.alloc hB.out.size (.cells #[.string (mkS lt.name), .int .i64 (la : Int)] 54))
        have hT1 := Lib.hid (hT.out.trans (TwU.below ((Below.refl _ wr).alloc (Nat.le_refl _) (.cells #[.string (mkS lt.name), .int .i64 (la : Int)] 54))))
        have hxb : Hid (wr.heap.size ≠ x) := Lib.hid (by have := hR.out.lt; omega)
        clear hcl hLc2 hgB2 hwl
        go_upto_region 8 with fail
        generalize hW2 : wr.alloc (.cells #[.string (mkS lt.name), .int .i64 (la : Int)] 54) = w2 at kb hR1 hB1 hT1 ⊢
        generalize hb2 : wr.heap.size = bx at kb hxb ⊢
        replace hW2 := Lib.hid hW2
        replace hb2 := Lib.hid hb2
        have n0 : ∀ d os, (grow (redrawn w2 d) os).cell? ⟨bx, 0, none⟩ = some (.string (mkS lt.name)) := cell_regrown (kb.out.cell 0)
        have hszN : (mkS lt.name).size ≤ 16384 := by rw [mkS_size]; exact hnl2.out
        have hsz1 : ¬ (9223372036854775807 < 4 + (mkS lt.name).size) := by omega
        have hsz2 : ¬ (9223372036854775807 < 4 + (mkS lt.name).size + 1) := by omega
        have hsz3 : ¬ (9223372036854775807 < (⟨#[108, 101, 116, 32]⟩ ++ mkS lt.name : ByteArray).size + 1) := by
          rw [ByteArray.size_append, show (⟨#[108, 101, 116, 32]⟩ : ByteArray).size = 4 from rfl]
          omega
        have es : mkS ([108, 101, 116, 32] ++ lt.name ++ isW true) = (⟨#[108, 101, 116, 32]⟩ ++ mkS lt.name ++ ⟨#[61]⟩) := by
          rw [← mkS_append, ← mkS_append]
          rfl
        have ebyt : Byt ([108, 101, 116, 32] ++ lt.name ++ isW true) := by
          intro y hy
          rcases List.mem_append.1 hy with hy | hy
          · rcases List.mem_append.1 hy with hy | hy
            · exact (show ∀ z, z ∈ [108, 101, 116, 32] → z < 256 by decide) y hy
            · exact hnm.out y hy
          · exact (show ∀ z, z ∈ isW true → z < 256 by decide) y hy
        have elen : ([108, 101, 116, 32] ++ lt.name ++ isW true).length ≤ 16400 := by
          have := hnl2.out
          simp [isW]
          omega
        have cS0 : Hid (∀ W, Below w2.heap.size w2 W → Calls Tryz.prog 59 #[.pointer (some ⟨x, 4, none⟩), .string (⟨#[108, 101, 116, 32]⟩ ++ mkS lt.name ++ ⟨#[61]⟩)] W (fun e w' => (∃ v, e = .returned v) ∧ WrS w.heap.size x gmm DF vN (.slice (some ⟨g, o, none⟩) nl cL) (m : Int) true (b ++ ([108, 101, 116, 32] ++ lt.name ++ isW true)) w' ∧ Below w.heap.size W w' ∧ TwU x W w')) := Lib.hid (fun W hW => by
          have := wWriteString (hR1.out.below hW) _ ebyt (by have := hbl.out; omega)
          rw [es] at this
          exact this)
        replace es := Lib.hid es
        replace elen := Lib.hid elen
        clear ebyt
        refine wp_region_tail_below 8 (by kernel_rfl) (by kernel_rfl) ?_
        simp only [List.take_succ_cons, List.take_zero, List.drop_succ_cons, List.drop_zero]
        iterate 8 (quiet_step (fail))
        refine wpQuiet_nil ?_
        intro w3 hb3
        have cS := Lib.hid (cS0.out w3 hb3)
        replace kb := Lib.hid (Blk.below kb.out hb3)
        replace hB1 := Lib.hid (hB1.out.trans (hb3.mono hB1.out.size))
        replace hT1 := Lib.hid (hT1.out.trans (TwU.below hb3))
        clear hb3 n0 hszN hsz1 hsz2 hsz3 cS0
        go_wp2_with fail
        refine cS.out.mono ?_
        rintro en w4 ⟨⟨v, rfl⟩, h4, hB4, hT4⟩
        clear cS
        replace kb := Lib.hid (hT4.blk kb.out (by decide) hxb.out)
        replace hB1 := Lib.hid (hB1.out.trans hB4)
        replace hT1 := Lib.hid (hT1.out.trans hT4)
        clear hB4 hT4
        have n1 : w4.cell? ⟨bx, 1, none⟩ = some (.int .i64 (la : Int)) := kb.out.cell 1
        have cP := Lib.hid (cPx.out.call la 1 _ w4 ⟨hla2.out, hla2.out⟩ (by omega) h4 hB1.out (by have := elen.out; have := hbl.out; rw [List.length_append]; omega))
        have hPl : Hid ((pw la 1 (b ++ ([108, 101, 116, 32] ++ lt.name ++ isW true))).length ≤ 80000) := Lib.hid (by
          have h1 := elen.out
          have h2 := hbl.out
          have h3 : (b ++ ([108, 101, 116, 32] ++ lt.name ++ isW true)).length ≤ 40000 := by rw [List.length_append]; omega
          have h4 := cPx.out.len la 1 (b ++ ([108, 101, 116, 32] ++ lt.name ++ isW true)) ⟨hla2.out, hla2.out⟩ (by omega)
          omega)
        obtain ⟨b5, hb5⟩ : ∃ b5, b5 = pw la 1 (b ++ ([108, 101, 116, 32] ++ lt.name ++ isW true)) := ⟨_, rfl⟩
        rw [← hb5] at cP hPl hstep
        replace hb5 := Lib.hid hb5
        clear h4
        go_wp2_with fail
        refine cP.out.mono ?_
        rintro en w5 ⟨rfl, h5, hB5, hT5⟩
        clear cP n1
        replace hB1 := Lib.hid (hB1.out.trans hB5)
        replace hT1 := Lib.hid (hT1.out.trans hT5)
        clear hB5 hT5
        have cE := Lib.hid (wWriteString h5 (enW true) (by unfold Byt; decide) (by have := hPl.out; have e2 : (enW true).length ≤ 2 := (by decide); omega))
        have ee : mkS (enW true) = (⟨#[59]⟩ : ByteArray) := rfl
        rw [ee] at cE
        clear h5 ee
        go_wp2_with fail
        refine cE.out.mono ?_
        rintro en w6 ⟨⟨v6, rfl⟩, h6, hB6, hT6⟩
        clear cE
        replace hB1 := Lib.hid (hB1.out.trans hB6)
        replace hT1 := Lib.hid (hT1.out.trans hT6)
        clear hB6 hT6
        obtain ⟨b6, hb6⟩ : ∃ b6, b6 = b5 ++ enW true := ⟨_, rfl⟩
        rw [← hb6] at hstep h6
        replace hb6 := Lib.hid hb6
        have cLn := wLen h6
        obtain ⟨nb, hnb⟩ : ∃ n, n = b6.length := ⟨_, rfl⟩
        rw [← hnb] at cLn
        replace cLn := Lib.hid cLn
        replace h6 := Lib.hid h6
        by_cases hlong : 16384 < b6.length
        case pos =>
          have hI : ((nb : Int) > 16384) := by omega
          have hnone : RW = none := by
            rw [hRW2.out, ← hLw.out, hstep.out, if_pos hlong]
            rfl
          subst hnone
          replace hnb := Lib.hid hnb
          clear hlong
          go_wp2_with fail
          refine cLn.out.mono ?_
          rintro en w7 ⟨rfl, rfl⟩
          go_wp2_with fail
          go_ret2
          exact ⟨_, rfl, (fun t ht => by cases ht), hB1.out⟩
        case neg =>
          have hI : ¬ ((nb : Int) > 16384) := by omega
          have hl6 : Hid (b6.length ≤ 16384) := Lib.hid (by omega)
          have hstep2 : Hid (lw (Ls.drop (i + 1)) b6 = lw Ls []) := Lib.hid (by rw [← hLw.out, hstep.out, if_neg hlong])
          replace hnb := Lib.hid hnb
          clear hlong
          go_wp2_with fail
          refine cLn.out.mono ?_
          rintro en w7 ⟨rfl, rfl⟩
          go_wp2_with fail
          go_roundg (gk - 1)
          case measure =>
            have := hik.out
            omega
          case rel => exact ⟨i + 1, b6, by simp, Lib.hid (by have := hik.out; omega), h6, hB1, hT1, hl6, hstep2⟩
      case neg =>
        have hi : i = nl := by have := hik.out; omega
        have hRb : RW = if (pw m 1 b).length ≤ 16384 then some (pw m 1 b) else none := by
          rw [hRW2.out, ← hLw.out, List.drop_eq_nil_of_le (by have := hnl.out; omega), hlw0.out]
          rfl
        replace hRb := Lib.hid hRb
        subst hi
        have cP := Lib.hid (cPx.out.call m 1 b wr ⟨hm, hm⟩ (by omega) hR.out hB.out (by have := hbl.out; omega))
        obtain ⟨b5, hb5⟩ : ∃ b5, b5 = pw m 1 b := ⟨_, rfl⟩
        rw [← hb5] at cP hRb
        replace hb5 := Lib.hid hb5
        go_wp2_with fail
        refine cP.out.mono ?_
        rintro en w5 ⟨rfl, h5, hB5, hT5⟩
        clear cP
        replace hB := Lib.hid (hB.out.trans hB5)
        clear hB5 hT5
        have hbyt : Hid (Byt b5) := Lib.hid (by
          obtain ⟨ad, vB, had, hk, hrow, hM, h1, h2, h3⟩ := h5
          exact h3)
        obtain ⟨v5, hv5⟩ : ∃ v, w5.cell? ⟨x, 5, none⟩ = some v := by
          obtain ⟨ad, vB, had, hk, -⟩ := h5
          exact ⟨_, hk.cell 5⟩
        obtain ⟨nb, hnb⟩ : ∃ n, n = b5.length := ⟨_, rfl⟩
        obtain ⟨A5, c5, hv5f⟩ : ∃ A c, v5 = .slice A nb c := by
          obtain ⟨ad, vB, had, hk, hrow, -⟩ := h5
          have : vB = v5 := by
            have := (hk.cell 5).symm.trans hv5
            injection this
          subst this
          obtain ⟨AB, cB, e, -⟩ := own_form hrow
          exact ⟨AB, cB, by rw [e, hnb]⟩
        subst hv5f
        have cSt := Lib.hid (fun W (hb : Below w5.heap.size w5 W) => w_String (h5.below hb) (show W.cell? ⟨x, 5, none⟩ = some (.slice A5 nb c5) from (hb.cell (show (⟨x, 5, none⟩ : Addr).block < w5.heap.size from h5.lt.1)).trans hv5))
        have cLn : Hid (∀ W, W.cell? ⟨x, 5, none⟩ = some (.slice A5 nb c5) → Calls Tryz.prog 61 #[.pointer (some ⟨x, 4, none⟩)] W (fun e w' => e = .returned (.int .i64 (nb : Int)) ∧ w' = W)) := Lib.hid (fun W hW => len_cell hW)
        have hd0 : Below w5.heap.size w5 w5.drew := (Below.refl _ w5).drew
        replace h5 := Lib.hid h5
        replace hnb := Lib.hid hnb
        go_upto_region 15 with fail
        go_region_held3 (fun w' => w'.cell? ⟨x, 5, none⟩ = some (.slice A5 nb c5)) (go_keep)
          (first
            | (go_at_call 61; (with_reducible refine Calls.mono (cLn.out _ (by assumption)) ?_); rintro en w7 ⟨rfl, rfl⟩)
            | (go_at_call 62; (with_reducible refine Calls.mono (cSt.out _ hd0) ?_); rintro en w8 ⟨rfl, hB8, hc8⟩))
        have hd : decide ((nb : Int) ≤ 16384) = RW.isSome := by
          have e1 := hnb.out
          rw [hRb.out]
          by_cases hlong : b5.length ≤ 16384
          · rw [if_pos hlong]
            simp
            omega
          · rw [if_neg hlong]
            simp
            omega
        have hfin : Hid (∀ t, RW = some t → mkS b5 = mkS t ∧ Byt t ∧ t.length ≤ 16384) := Lib.hid (fun t ht => by
          have hR9 := hRb.out
          rw [ht] at hR9
          by_cases hlong : b5.length ≤ 16384
          · rw [if_pos hlong] at hR9
            injection hR9 with hR9
            subst hR9
            exact ⟨rfl, hbyt.out, hlong⟩
          · rw [if_neg hlong] at hR9
            cases hR9)
        replace hB := Lib.hid (hB.out.trans ((hd0.mono hB.out.size).trans hB8))
        clear hB8 hc8
        replace hd := Lib.hid hd
        go_wp2_with fail
        go_ret2
        exact ⟨mkS b5, by rw [hd.out]; rfl, hfin.out, hB.out⟩
end Go.Proofs.YtnaadajcehfmiaaGreatDoor
