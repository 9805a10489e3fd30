import Derived.Test.YtoaggmegmgdgbaaGreatRefA
import Derived.BigQuiet
import Derived.Test.YtoaggmegmgdgbaaGreatWideG
import Derived.Test.YtoaggmegmgdgbaaGreatNatC
import Derived.Test.YtoaggmegmgdgbaaGreatAngA
import Derived.Deep.CutRange
import Derived.Test.YtoaggmegmgdgbaaGreatBackP
import Derived.Test.YtoaggmegmgdgbaaGreatEuler
import Derived.Test.YtoaggmegmgdgbaaGreatAngN
import Derived.Deep.CutBlock
import Derived.Test.YtoaggmegmgdgbaaGreatOrbP
import Derived.Test.YtoaggmegmgdgbaaGreatIter
import Derived.RangeFuncNested
import Derived.RangeFuncBound
import Derived.Shelf.Abstract
import Derived.Shelf.RegionOpen
import Derived.OwnWalkIn
import Derived.TacticsInMore
import Derived.LoopNIn
import Derived.LoopIn
namespace Go.Proofs.YtoaggmegmgdgbaaGreat
open Go.RowKit Go.Sort
def vb (l : List Nat) : Nat := be l.reverse
open Go.RowKit Go.Sort
open Go.RowKit Go.Sort
open Go.RowKit Go.Sort
end Go.Proofs.YtoaggmegmgdgbaaGreat
namespace Go.Proofs.YtoaggmegmgdgbaaGreat
open Go.RowKit Go.Sort
attribute [local go_sem] Oper.semAt_some
def orbR (neg : Bool) (num den : ByteArray) (d : Int) : List (Nat × Nat) :=
  if okA neg num den && roundB d then orbL (be (sl num)) (be (sl den)) d.toNat (orbN (be (sl den)) d.toNat) else []
theorem blk_keep {S : Nat → Prop} {A B : World} {g : Nat} {T : TypeId} {cs : Array Value} (h : Blk A g T cs) (hk : KeepB S A B) (hg : S g) : Blk B g T cs := (hk.block g hg).trans h
theorem outB_of_below {lo hi : Nat} {A B : World} (h : Below A.heap.size A B) : OutB lo hi A B := (OutB.refl lo hi A).below h
set_option maxRecDepth 100000 in
set_option maxHeartbeats 4000000 in
theorem orbit_iter (ng : Bool) (nu de : ByteArray) (d : Int) (gA gD : Nat) (w0 : World) (z1 : nu.size ≤ 9223372036854775807) (z2 : de.size ≤ 9223372036854775807)
    (hA : Blk w0 gA 26 #[.bool ng, .string nu, .string de]) (hD : Blk w0 gD 3 #[.int .i64 d]) :
    IterB Tryz.prog 144 #[.pointer (some ⟨gA, 0, none⟩), .pointer (some ⟨gD, 0, none⟩)] (fun (p : Nat × Nat) => #[ratV p.1 p.2]) (orbR ng nu de d) (fun k => k = gA ∨ k = gD) w0 := by
  intro l J Jx W hW hJ hJx hY h0
  replace hA := hA.below hW
  replace hD := hD.below hW
  obtain ⟨x, y, hs, hq⟩ := smallV_form ng nu de
  obtain ⟨ok, hok⟩ : ∃ b, b = okA ng nu de := ⟨_, rfl⟩
  obtain ⟨R, hR⟩ : ∃ R, R = orbR ng nu de d := ⟨_, rfl⟩
  rw [← hok] at hs hq
  rw [← hR] at hY ⊢
  replace hR := Lib.hid hR
  replace hs := Lib.hid hs
  replace hq := Lib.hid hq
  replace hok := Lib.hid hok
  replace hA := Lib.hid hA
  replace hD := Lib.hid hD
  replace hJ := Lib.hid hJ
  replace hJx := Lib.hid hJx
  replace hY := Lib.hid hY
  replace h0 := Lib.hid h0
  have a0 : W.cell? ⟨gA, 0, none⟩ = some (.bool ng) := hA.out.cell 0
  have a1 : W.cell? ⟨gA, 1, none⟩ = some (.string nu) := hA.out.cell 1
  have a2 : W.cell? ⟨gA, 2, none⟩ = some (.string de) := hA.out.cell 2
  refine callsIn_of_wp Tryz.func144 rfl trivial ?_ rfl
  simp only [Tryz.ntmps144, List.size_toArray, List.length_cons, List.length_nil, Nat.reduceAdd, Nat.reduceSub, Array.replicate_succ, Array.replicate_zero, List.push_toArray, List.append_toArray, List.nil_append, List.cons_append]
  refine wpIn_wide.2 ?_
  go_wp2_with fail
  refine (small_any ng nu de _ z1 z2).mono ?_
  rintro e v1 ⟨rfl, hb⟩
  rw [hs.out]
  have kp := Blk.new v1 144 #[.int .u64 (x : Int), .int .u64 (y : Int)]
  have hO : ∀ lo hi, OutB lo hi W (v1.alloc (.cells #[.int .u64 (x : Int), .int .u64 (y : Int)] 144)) := fun lo hi => (outB_of_below hb).alloc _
  have hA2 := (Blk.below hA.out hb).alloc (.cells #[.int .u64 (x : Int), .int .u64 (y : Int)] 144)
  have hD2 := (Blk.below hD.out hb).alloc (.cells #[.int .u64 (x : Int), .int .u64 (y : Int)] 144)
  have hgA := hA.out.lt
  have hgD := hD.out.lt
  have hWs := hb.size
  have hus : v1.heap.size < (v1.alloc (.cells #[.int .u64 (x : Int), .int .u64 (y : Int)] 144)).heap.size := by simp
  clear hb a0 a1 a2 hA hD
  go_upto_region 1 with fail
  generalize hxx : v1.alloc (.cells #[.int .u64 (x : Int), .int .u64 (y : Int)] 144) = u at kp hO hA2 hD2 hus ⊢
  generalize hgg : v1.heap.size = gp at *
  clear hxx hgg
  replace kp := Lib.hid kp
  replace hO := Lib.hid hO
  replace hA2 := Lib.hid hA2
  replace hD2 := Lib.hid hD2
  have d0 : u.cell? ⟨gD, 0, none⟩ = some (.int .i64 d) := hD2.out.cell 0
  have p0 : u.cell? ⟨gp, 0, none⟩ = some (.int .u64 (x : Int)) := kp.out.cell 0
  have p1 : u.cell? ⟨gp, 1, none⟩ = some (.int .u64 (y : Int)) := kp.out.cell 1
  cases ok
  · have hRe : R = [] := by rw [hR.out]; simp [orbR, ← hok.out]
    subst hRe
    clear hR
    go_wp2_with fail
    refine bodyPost_ret (results_none rfl _ _ _) rfl ?_
    exact ⟨⟨_, rfl⟩, 0, .inl (hJ.out _ _ _ _ (h0.out 0) (hO.out _ _))⟩
  cases hr : roundB d
  · have hRe : R = [] := by rw [hR.out]; simp [orbR, hr]
    subst hRe
    replace hr := Lib.hid hr
    clear hR
    go_wp2_with fail
    refine (aturns_any d _).mono ?_
    rintro e x0 ⟨rfl, rfl⟩
    rw [hr.out]
    go_wp2_with fail
    refine bodyPost_ret (results_none rfl _ _ _) rfl ?_
    exact ⟨⟨_, rfl⟩, 0, .inl (hJ.out _ _ _ _ (h0.out 0) (hO.out _ _))⟩
  obtain ⟨ex, ey, k1, kl⟩ := hq.out rfl
  have hd := roundB_iff.1 hr
  obtain ⟨dn, rfl⟩ := Int.eq_ofNat_of_zero_le (show 0 ≤ d by omega)
  have hgc : Nat.gcd x y = 1 := by rw [ex, ey]; exact (okA_spec hok.out.symm).2.2.2.1
  have y0 : 0 < y := by omega
  obtain ⟨A, hAe⟩ : ∃ A, A = (kindN y dn).1 := ⟨_, rfl⟩
  obtain ⟨B, hBe⟩ : ∃ B, B = (kindN y dn).2 := ⟨_, rfl⟩
  have hk : Hid (kindN y dn = (A, B)) := Lib.hid (by rw [hAe, hBe])
  have hAs : A ≤ 2147483647 := by rw [hAe]; have := kindF_cnt y y dn 0; unfold kindN; omega
  have hBs : B ≤ 2147483647 := by rw [hBe]; have := kind_le y y dn 0 y0 (Nat.le_refl _); unfold kindN; omega
  obtain ⟨t, ht⟩ : ∃ t, t = A + B := ⟨_, rfl⟩
  have htI : (A : Int) + (B : Int) = (t : Int) := by omega
  have hRe : Hid (R = orbL x y dn t) := Lib.hid (by
    rw [hR.out, orbR, ← hok.out, hr, ht, hAe, hBe, ex, ey]
    simp [orbN])
  have hstart : Hid ((x, y) = orbM x y dn 0) := Lib.hid (orbM_zero hgc k1).symm
  have wd : IntKind.u64.wrap (dn : Int) = (dn : Int) := by rw [IntKind.wrap_u64]; omega
  have hts : t ≤ 4294967294 := by omega
  have hdI : (2 : Int) ≤ (dn : Int) := hd.1
  have hdI2 : (dn : Int) ≤ 64 := hd.2
  replace hr := Lib.hid hr
  clear hR hAe hBe ht ex ey hgc hd
  go_wp2_with fail
  refine (aturns_any (dn : Int) _).mono ?_
  rintro e x0 ⟨rfl, rfl⟩
  rw [hr.out]
  go_wp2_with fail
  refine (kind_any y dn A B _ y0 (by omega) (by omega) hk).mono ?_
  rintro e u2 ⟨rfl, hb⟩
  replace kp := Lib.hid (Blk.below kp.out hb)
  replace hA2 := Lib.hid (Blk.below hA2.out hb)
  replace hD2 := Lib.hid (Blk.below hD2.out hb)
  have hus2 : gp < u2.heap.size := by have := hb.size; omega
  obtain ⟨m, hm⟩ : ∃ m, W.heap.size + m = gp + 1 := ⟨gp + 1 - W.heap.size, by omega⟩
  have hJ0 : Hid (J m [] u2) := Lib.hid (hJ.out _ _ _ _ (h0.out m) ((hO.out _ _).below hb))
  clear hb d0 p0 p1 hO h0 hus
  go_wp2_with fail
  go_loopw [31] (fun c wr => ∃ (j N D : Nat), c = .int .i64 (j : Int) ∧ j ≤ t ∧ (N, D) = orbM x y dn j ∧ Blk wr gp 144 #[.int .u64 (N : Int), .int .u64 (D : Int)] ∧ Blk wr gA 26 #[.bool ng, .string nu, .string de] ∧ Blk wr gD 3 #[.int .i64 (dn : Int)] ∧ J m (orbL x y dn j) wr) (fun c _ => t - (intOf c).toNat)
  case atStart => exact ⟨0, x, y, rfl, Nat.zero_le _, hstart.out, kp.out, hA2.out, hD2.out, hJ0.out⟩
  case round =>
    obtain ⟨j, N, D, rfl, hj, hND, hp, hA3, hD3, hJj⟩ := hrel
    have hjI9 : (j : Int) ≤ 4294967294 := by omega
    by_cases hjt : j < t
    · have hjI : (j : Int) < (t : Int) := by omega
      have hf := orbM_facts (x := x) (d := dn) (n := j) y0
      rw [← hND] at hf
      obtain ⟨f1, f2, f3⟩ := hf
      simp only at f1 f2 f3
      have p0 : wr.cell? ⟨gp, 0, none⟩ = some (.int .u64 (N : Int)) := hp.cell 0
      have p1 : wr.cell? ⟨gp, 1, none⟩ = some (.int .u64 (D : Int)) := hp.cell 1
      have hlt := hp.lt
      replace hND := Lib.hid hND
      replace hp := Lib.hid hp
      replace hA3 := Lib.hid hA3
      replace hD3 := Lib.hid hD3
      replace hJj := Lib.hid hJj
      obtain ⟨wo, rfl⟩ : ∃ wo : World, wo = wr := ⟨_, rfl⟩
      refine (wpIn_wide (n := 0)).1 ?_
      gi_wp2_with fail
      refine ⟨trivial, rfl, (callsIn_wide.2 (ratioOf_any N D _ (by omega) (by omega))).mono ?_⟩
      rintro e w1 ⟨rfl, hb⟩
      replace hp := Lib.hid (Blk.below hp.out hb)
      replace hA3 := Lib.hid (Blk.below hA3.out hb)
      replace hD3 := Lib.hid (Blk.below hD3.out hb)
      replace hJj := Lib.hid (hJ.out _ _ _ _ hJj.out (outB_of_below hb))
      have hlt1 : gp < w1.heap.size := by have := hb.size; omega
      have hpre : orbL x y dn j ++ [orbM x y dn j] <+: R := by
        rw [← orbL_succ, hRe.out, ← orbL_take (show j + 1 ≤ t by omega)]
        exact List.take_prefix _ _
      obtain ⟨fn, tmps, assign, body, hy, hrd⟩ := hY.out m _ _ w1 hJj.out (by omega) hpre
      simp only [← hND.out] at hy
      replace hrd := Lib.hid hrd
      clear hb p0 p1 hpre hlt
      gi_wp2_with fail
      refine ⟨rfl, hrd.out.mono ?_⟩
      rintro e w2 (⟨rfl, hJ2, hkp⟩ | ⟨rfl, hJx2⟩)
      · have hp2 := blk_keep hp.out hkp (.inr ⟨by omega, by omega⟩)
        have hA4 := blk_keep hA3.out hkp (.inl (.inl rfl))
        have hD4 := blk_keep hD3.out hkp (.inl (.inr rfl))
        have p0 : w2.cell? ⟨gp, 0, none⟩ = some (.int .u64 (N : Int)) := hp2.cell 0
        have p1 : w2.cell? ⟨gp, 1, none⟩ = some (.int .u64 (D : Int)) := hp2.cell 1
        have d0 : w2.cell? ⟨gD, 0, none⟩ = some (.int .i64 (dn : Int)) := hD4.cell 0
        rw [← orbL_succ] at hJ2
        obtain ⟨T, hT⟩ : ∃ T, T = turnX N D dn 1 := ⟨_, rfl⟩
        obtain ⟨N2, hN2⟩ : ∃ a, a = T / Nat.gcd T D := ⟨_, rfl⟩
        obtain ⟨D2, hD2⟩ : ∃ a, a = D / Nat.gcd T D := ⟨_, rfl⟩
        have hTe : Hid (T = N * dn % D) := Lib.hid (by rw [hT, turnX_eq, Nat.pow_one])
        have hnext : Hid ((N2, D2) = orbM x y dn (j + 1)) := Lib.hid (by
          rw [← orbM_next y0 hND.out, hN2, hD2, hT]; rfl)
        replace hN2 := Lib.hid hN2
        replace hD2 := Lib.hid hD2
        replace hp2 := Lib.hid hp2
        replace hA4 := Lib.hid hA4
        replace hD4 := Lib.hid hD4
        replace hJ2 := Lib.hid hJ2
        clear hkp hT hy hrd hp hA3 hD3 hJj
        gi_wp2_with fail
        refine ⟨trivial, rfl, (callsIn_wide.2 (turn_any N D dn T N2 D2 _ (by omega) (by omega) (by omega) (by omega) hTe hN2 hD2)).mono ?_⟩
        rintro e w3 ⟨rfl, hb⟩
        have hp3 := Blk.below hp2.out hb
        have f0 := hp3.frozen 0
        have f1 := hp3.frozen 1
        have q0 : w3.cell? ⟨gp, 0, none⟩ = some (.int .u64 (N : Int)) := hp3.cell 0
        have q1 : w3.cell? ⟨gp, 1, none⟩ = some (.int .u64 (D : Int)) := hp3.cell 1
        have hp5 : Blk ((w3.setCell ⟨gp, 0, none⟩ (.int .u64 (N2 : Int))).setCell ⟨gp, 1, none⟩ (.int .u64 (D2 : Int))) gp 144 #[.int .u64 (N2 : Int), .int .u64 (D2 : Int)] := (hp3.set_ 0 _).set_ 1 _
        have hA5 : Blk ((w3.setCell ⟨gp, 0, none⟩ (.int .u64 (N2 : Int))).setCell ⟨gp, 1, none⟩ (.int .u64 (D2 : Int))) gA 26 #[.bool ng, .string nu, .string de] := ((Blk.below hA4.out hb).far (p := ⟨gp, 0, none⟩) (by simp; omega) _).far (p := ⟨gp, 1, none⟩) (by simp; omega) _
        have hD5 : Blk ((w3.setCell ⟨gp, 0, none⟩ (.int .u64 (N2 : Int))).setCell ⟨gp, 1, none⟩ (.int .u64 (D2 : Int))) gD 3 #[.int .i64 (dn : Int)] := ((Blk.below hD4.out hb).far (p := ⟨gp, 0, none⟩) (by simp; omega) _).far (p := ⟨gp, 1, none⟩) (by simp; omega) _
        have hJ5 : J m (orbL x y dn (j + 1)) ((w3.setCell ⟨gp, 0, none⟩ (.int .u64 (N2 : Int))).setCell ⟨gp, 1, none⟩ (.int .u64 (D2 : Int))) :=
          hJ.out _ _ _ _ hJ2.out (((outB_of_below hb).setCell (p := ⟨gp, 0, none⟩) (by simp; omega) (by simp; omega) _).setCell (p := ⟨gp, 1, none⟩) (by simp; omega) (by simp; omega) _)
        replace hp5 := Lib.hid hp5
        replace hA5 := Lib.hid hA5
        replace hD5 := Lib.hid hD5
        replace hJ5 := Lib.hid hJ5
        clear hb hp2 hA4 hD4 hJ2 hp3 p0 p1 d0
        gi_wp2_with fail
        go_roundw
        case rel => exact ⟨j + 1, N2, D2, by go_num, by omega, hnext.out, hp5.out, hA5.out, hD5.out, hJ5.out⟩
        case measure => simp [intOf]; omega
      · have hpre2 : orbL x y dn j ++ [orbM x y dn j] <+: R := by
          rw [← orbL_succ, hRe.out, ← orbL_take (show j + 1 ≤ t by omega)]
          exact List.take_prefix _ _
        replace hpre2 := Lib.hid hpre2
        replace hJx2 := Lib.hid hJx2
        clear hy hrd
        gi_wp2_with fail
        refine bodyPost_ret (results_none rfl _ _ _) rfl ?_
        exact ⟨⟨_, rfl⟩, m, .inr ⟨_, hpre2.out, hJx2.out⟩⟩
    · obtain rfl : j = t := by omega
      have hjI : ¬ (j : Int) < (j : Int) := by omega
      replace hJj := Lib.hid hJj
      clear hp hA3 hD3 hND
      go_wp2_with fail
      go_end0
      exact ⟨⟨_, rfl⟩, m, .inl (by rw [hRe.out]; exact hJj.out)⟩
open Go.RowKit Go.Sort
open Go.RowKit Go.Sort
def RetIt (ng : Bool) (nu de : ByteArray) (d : Int) (w : World) (e : Ending) (w' : World) : Prop :=
  ∃ gA gD, e = .returned (.func (.func 144) #[] #[.pointer (some ⟨gA, 0, none⟩), .pointer (some ⟨gD, 0, none⟩)]) ∧ Blk w' gA 26 #[.bool ng, .string nu, .string de] ∧ Blk w' gD 3 #[.int .i64 d] ∧ Below w.heap.size w w'
set_option maxRecDepth 100000 in
theorem orbit_any (ng : Bool) (nu de : ByteArray) (d : Int) (w : World) :
    Calls Tryz.prog 101 #[.agg #[.bool ng, .string nu, .string de], .int .i64 d] w (RetIt ng nu de d w) := by
  have k1 := (Blk.new w 26 #[.bool ng, .string nu, .string de]).alloc (.cells #[.int .i64 d] 3)
  have k2 := Blk.new (w.alloc (.cells #[.bool ng, .string nu, .string de] 26)) 3 #[.int .i64 d]
  have hb : Below w.heap.size w ((w.alloc (.cells #[.bool ng, .string nu, .string de] 26)).alloc (.cells #[.int .i64 d] 3)) := ((Below.refl _ w).alloc (Nat.le_refl _) _).alloc (by simp) _
  replace k1 := Lib.hid k1
  replace k2 := Lib.hid k2
  replace hb := Lib.hid hb
  go_enter Tryz.func101, Tryz.ntmps101
  go_wp2_with fail
  go_ret
  exact ⟨_, _, rfl, k1.out, by simpa using k2.out, hb.out⟩
theorem gb_out {a A B : World} {r : Option Nat} {hi : Nat} (h : a.grownBy A r) (ho : OutB a.heap.size hi A B) : a.grownBy B r :=
  ⟨ho.os.trans h.os, ho.tape.trans h.tape, ho.output.trans h.output, Nat.le_trans h.size ho.size, fun k hk hne => (ho.block k (Nat.lt_of_lt_of_le hk h.size) (by omega)).trans (h.block k hk hne)⟩
theorem blk_out {A B : World} {g lo hi : Nat} {T : TypeId} {cs : Array Value} (h : Blk A g T cs) (hg : g < lo) (ho : OutB lo hi A B) : Blk B g T cs := (ho.block g h.lt (by omega)).trans h
theorem leaves_one {P : Program} {fn : Func} {tmps : Array Value} {R : Ending → World → Prop} {W : World} {v : Value} {D : Nat} (hK : W.heap[D]? = some (.deferred (some []))) (hr : (results fn tmps).run P (W.putObj D (.deferred none)) = .ok v (W.putObj D (.deferred none)))
    (hR : R (.returned v) (W.putObj D (.deferred none))) : LeavesInM Fence.wide 0 P fn tmps R [{ target := .collected D, args := #[] }] .returning W :=
  ⟨by simp, .inl ⟨_, _, rfl, run_takeDeferred hK, ⟨_, hr, hR⟩⟩⟩
theorem blk_put {W : World} {g r : Nat} {T : TypeId} {cs : Array Value} (h : Blk W g T cs) (hne : g ≠ r) (o : Obj) : Blk (W.putObj r o) g T cs := (World.putObj_heap_other hne).trans h
theorem below_put {B r : Nat} {a W : World} (h : Below B a W) (hr : B ≤ r) (o : Obj) : Below B a (W.putObj r o) :=
  h.trans ⟨rfl, rfl, rfl, by simp, fun k hk => World.putObj_heap_other (by omega)⟩
theorem own_put {W : World} {base : Nat} {T : TypeId} {size : Nat} {v : Value} {n : Nat} {xs : List Value} (h : W.ownsRow base T size v n xs) {r : Nat} (hne : v.ownBlock ≠ some r) (o : Obj) : (W.putObj r o).ownsRow base T size v n xs :=
  h.kept (grownBy_putObj' W r o) (.inr hne)
attribute [local go_sem] Oper.semAt_some
end Go.Proofs.YtoaggmegmgdgbaaGreat
