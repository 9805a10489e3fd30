/- Package angle: Orbit, the iterator. · Package filigreeref21: Orbit. · filigreelaw21.AngleOrbits: the walk. -/
import Derived.Test.YtbddlbhanpjdnaaGreatDoorOrbP
import Derived.Test.YtbddlbhanpjdnaaGreatDoorBackP
import Derived.Test.YtbddlbhanpjdnaaGreatDoorIter
import Derived.RangeFuncNested
import Derived.RangeFuncBound
import Derived.Shelf.Abstract
import Derived.Shelf.RegionOpen
import Derived.OwnWalkIn
import Derived.TacticsInMore
import Derived.LoopNIn
import Derived.LoopIn
import Derived.Test.YtbddlbhanpjdnaaGreatDoorR02C
namespace Go.Proofs.YtbddlbhanpjdnaaGreatDoor
open Go.RowKit Go.Sort
attribute [local go_sem] Oper.semAt_some

/-- What Orbit tells. -/
def orbR (neg : Bool) (num den : ByteArray) (d : Int) : List (Nat × Nat) :=
  if okA neg num den && roundB d then orbL (be (sl num)) (be (sl den)) d.toNat (orbN (be (sl den)) d.toNat) else []

theorem blk_keep {S : Nat → Prop} {A B : World} {g : Nat} {T : TypeId} {cs : Array Value} (h : Blk A g T cs) (hk : KeepB S A B) (hg : S g) : Blk B g T cs := (hk.block g hg).trans h
theorem outB_of_below {lo hi : Nat} {A B : World} (h : Below A.heap.size A B) : OutB lo hi A B := (OutB.refl lo hi A).below h

set_option maxRecDepth 100000 in
set_option maxHeartbeats 4000000 in
theorem orbit_iter (ng : Bool) (nu de : ByteArray) (d : Int) (gA gD : Nat) (w0 : World) (z1 : nu.size ≤ 9223372036854775807) (z2 : de.size ≤ 9223372036854775807)
    (hA : Blk w0 gA 24 #[.bool ng, .string nu, .string de]) (hD : Blk w0 gD 3 #[.int .i64 d]) :
    IterB Tryz.prog 60 #[.pointer (some ⟨gA, 0, none⟩), .pointer (some ⟨gD, 0, none⟩)] (fun (p : Nat × Nat) => #[ratV p.1 p.2]) (orbR ng nu de d) (fun k => k = gA ∨ k = gD) w0 := by
  intro l J Jx W hW hJ hJx hY h0
  replace hA := hA.below hW
  replace hD := hD.below hW
  obtain ⟨x, y, hs, hq⟩ := smallV_form ng nu de
  obtain ⟨ok, hok⟩ : ∃ b, b = okA ng nu de := ⟨_, rfl⟩
  obtain ⟨R, hR⟩ : ∃ R, R = orbR ng nu de d := ⟨_, rfl⟩
  rw [← hok] at hs hq
  rw [← hR] at hY ⊢
  replace hR := Lib.hid hR
  replace hs := Lib.hid hs
  replace hq := Lib.hid hq
  replace hok := Lib.hid hok
  replace hA := Lib.hid hA
  replace hD := Lib.hid hD
  replace hJ := Lib.hid hJ
  replace hJx := Lib.hid hJx
  replace hY := Lib.hid hY
  replace h0 := Lib.hid h0
  have a0 : W.cell? ⟨gA, 0, none⟩ = some (.bool ng) := hA.out.cell 0
  have a1 : W.cell? ⟨gA, 1, none⟩ = some (.string nu) := hA.out.cell 1
  have a2 : W.cell? ⟨gA, 2, none⟩ = some (.string de) := hA.out.cell 2
  refine callsIn_of_wp Tryz.func60 rfl trivial ?_ rfl
  simp only [Tryz.ntmps60, List.size_toArray, List.length_cons, List.length_nil, Nat.reduceAdd, Nat.reduceSub, Array.replicate_succ, Array.replicate_zero, List.push_toArray, List.append_toArray, List.nil_append, List.cons_append]
  refine wpIn_wide.2 ?_
  go_wp2_with fail
  refine (small_any ng nu de _ z1 z2).mono ?_
  rintro e v1 ⟨rfl, hb⟩
  rw [hs.out]
  have kp := Blk.new v1 101 #[.int .u64 (x : Int), .int .u64 (y : Int)]
  have hO : ∀ lo hi, OutB lo hi W (v1.alloc (.cells #[.int .u64 (x : Int), .int .u64 (y : Int)] 101)) := fun lo hi => (outB_of_below hb).alloc _
  have hA2 := (Blk.below hA.out hb).alloc (.cells #[.int .u64 (x : Int), .int .u64 (y : Int)] 101)
  have hD2 := (Blk.below hD.out hb).alloc (.cells #[.int .u64 (x : Int), .int .u64 (y : Int)] 101)
  have hgA := hA.out.lt
  have hgD := hD.out.lt
  have hWs := hb.size
  have hus : v1.heap.size < (v1.alloc (.cells #[.int .u64 (x : Int), .int .u64 (y : Int)] 101)).heap.size := by simp
  clear hb a0 a1 a2 hA hD
  go_upto_region 1 with fail
  generalize hxx : v1.alloc (.cells #[.int .u64 (x : Int), .int .u64 (y : Int)] 101) = u at kp hO hA2 hD2 hus ⊢
  generalize hgg : v1.heap.size = gp at *
  clear hxx hgg
  replace kp := Lib.hid kp
  replace hO := Lib.hid hO
  replace hA2 := Lib.hid hA2
  replace hD2 := Lib.hid hD2
  have d0 : u.cell? ⟨gD, 0, none⟩ = some (.int .i64 d) := hD2.out.cell 0
  have p0 : u.cell? ⟨gp, 0, none⟩ = some (.int .u64 (x : Int)) := kp.out.cell 0
  have p1 : u.cell? ⟨gp, 1, none⟩ = some (.int .u64 (y : Int)) := kp.out.cell 1
  cases ok
  · have hRe : R = [] := by rw [hR.out]; simp [orbR, ← hok.out]
    subst hRe
    clear hR
    go_wp2_with fail
    refine bodyPost_ret (results_none rfl _ _ _) rfl ?_
    exact ⟨⟨_, rfl⟩, 0, .inl (hJ.out _ _ _ _ (h0.out 0) (hO.out _ _))⟩
  cases hr : roundB d
  · have hRe : R = [] := by rw [hR.out]; simp [orbR, hr]
    subst hRe
    replace hr := Lib.hid hr
    clear hR
    go_wp2_with fail
    refine (aturns_any d _).mono ?_
    rintro e x0 ⟨rfl, rfl⟩
    rw [hr.out]
    go_wp2_with fail
    refine bodyPost_ret (results_none rfl _ _ _) rfl ?_
    exact ⟨⟨_, rfl⟩, 0, .inl (hJ.out _ _ _ _ (h0.out 0) (hO.out _ _))⟩
  obtain ⟨ex, ey, k1, kl⟩ := hq.out rfl
  have hd := roundB_iff.1 hr
  obtain ⟨dn, rfl⟩ := Int.eq_ofNat_of_zero_le (show 0 ≤ d by omega)
  have hgc : Nat.gcd x y = 1 := by rw [ex, ey]; exact (okA_spec hok.out.symm).2.2.2.1
  have y0 : 0 < y := by omega
  obtain ⟨A, hAe⟩ : ∃ A, A = (kindN y dn).1 := ⟨_, rfl⟩
  obtain ⟨B, hBe⟩ : ∃ B, B = (kindN y dn).2 := ⟨_, rfl⟩
  have hk : Hid (kindN y dn = (A, B)) := Lib.hid (by rw [hAe, hBe])
  have hAs : A ≤ 2147483647 := by rw [hAe]; have := kindF_cnt y y dn 0; unfold kindN; omega
  have hBs : B ≤ 2147483647 := by rw [hBe]; have := kind_le y y dn 0 y0 (Nat.le_refl _); unfold kindN; omega
  obtain ⟨t, ht⟩ : ∃ t, t = A + B := ⟨_, rfl⟩
  have htI : (A : Int) + (B : Int) = (t : Int) := by omega
  have hRe : Hid (R = orbL x y dn t) := Lib.hid (by
    rw [hR.out, orbR, ← hok.out, hr, ht, hAe, hBe, ex, ey]
    simp [orbN])
  have hstart : Hid ((x, y) = orbM x y dn 0) := Lib.hid (orbM_zero hgc k1).symm
  have wd : IntKind.u64.wrap (dn : Int) = (dn : Int) := by rw [IntKind.wrap_u64]; omega
  have hts : t ≤ 4294967294 := by omega
  have hdI : (2 : Int) ≤ (dn : Int) := hd.1
  have hdI2 : (dn : Int) ≤ 64 := hd.2
  replace hr := Lib.hid hr
  clear hR hAe hBe ht ex ey hgc hd
  go_wp2_with fail
  refine (aturns_any (dn : Int) _).mono ?_
  rintro e x0 ⟨rfl, rfl⟩
  rw [hr.out]
  go_wp2_with fail
  refine (kind_any y dn A B _ y0 (by omega) (by omega) hk).mono ?_
  rintro e u2 ⟨rfl, hb⟩
  replace kp := Lib.hid (Blk.below kp.out hb)
  replace hA2 := Lib.hid (Blk.below hA2.out hb)
  replace hD2 := Lib.hid (Blk.below hD2.out hb)
  have hus2 : gp < u2.heap.size := by have := hb.size; omega
  obtain ⟨m, hm⟩ : ∃ m, W.heap.size + m = gp + 1 := ⟨gp + 1 - W.heap.size, by omega⟩
  have hJ0 : Hid (J m [] u2) := Lib.hid (hJ.out _ _ _ _ (h0.out m) ((hO.out _ _).below hb))
  clear hb d0 p0 p1 hO h0 hus
  go_wp2_with fail
  go_loopw [31] (fun c wr => ∃ (j N D : Nat), c = .int .i64 (j : Int) ∧ j ≤ t ∧ (N, D) = orbM x y dn j ∧ Blk wr gp 101 #[.int .u64 (N : Int), .int .u64 (D : Int)] ∧ Blk wr gA 24 #[.bool ng, .string nu, .string de] ∧ Blk wr gD 3 #[.int .i64 (dn : Int)] ∧ J m (orbL x y dn j) wr) (fun c _ => t - (intOf c).toNat)
  case atStart => exact ⟨0, x, y, rfl, Nat.zero_le _, hstart.out, kp.out, hA2.out, hD2.out, hJ0.out⟩
  case round =>
    obtain ⟨j, N, D, rfl, hj, hND, hp, hA3, hD3, hJj⟩ := hrel
    have hjI9 : (j : Int) ≤ 4294967294 := by omega
    by_cases hjt : j < t
    · have hjI : (j : Int) < (t : Int) := by omega
      have hf := orbM_facts (x := x) (d := dn) (n := j) y0
      rw [← hND] at hf
      obtain ⟨f1, f2, f3⟩ := hf
      simp only at f1 f2 f3
      have p0 : wr.cell? ⟨gp, 0, none⟩ = some (.int .u64 (N : Int)) := hp.cell 0
      have p1 : wr.cell? ⟨gp, 1, none⟩ = some (.int .u64 (D : Int)) := hp.cell 1
      have hlt := hp.lt
      replace hND := Lib.hid hND
      replace hp := Lib.hid hp
      replace hA3 := Lib.hid hA3
      replace hD3 := Lib.hid hD3
      replace hJj := Lib.hid hJj
      obtain ⟨wo, rfl⟩ : ∃ wo : World, wo = wr := ⟨_, rfl⟩
      refine (wpIn_wide (n := 0)).1 ?_
      gi_wp2_with fail
      refine ⟨trivial, rfl, (callsIn_wide.2 (ratioOf_any N D _ (by omega) (by omega))).mono ?_⟩
      rintro e w1 ⟨rfl, hb⟩
      replace hp := Lib.hid (Blk.below hp.out hb)
      replace hA3 := Lib.hid (Blk.below hA3.out hb)
      replace hD3 := Lib.hid (Blk.below hD3.out hb)
      replace hJj := Lib.hid (hJ.out _ _ _ _ hJj.out (outB_of_below hb))
      have hlt1 : gp < w1.heap.size := by have := hb.size; omega
      have hpre : orbL x y dn j ++ [orbM x y dn j] <+: R := by
        rw [← orbL_succ, hRe.out, ← orbL_take (show j + 1 ≤ t by omega)]
        exact List.take_prefix _ _
      obtain ⟨fn, tmps, assign, body, hy, hrd⟩ := hY.out m _ _ w1 hJj.out (by omega) hpre
      simp only [← hND.out] at hy
      replace hrd := Lib.hid hrd
      clear hb p0 p1 hpre hlt
      gi_wp2_with fail
      refine ⟨rfl, hrd.out.mono ?_⟩
      rintro e w2 (⟨rfl, hJ2, hkp⟩ | ⟨rfl, hJx2⟩)
      · have hp2 := blk_keep hp.out hkp (.inr ⟨by omega, by omega⟩)
        have hA4 := blk_keep hA3.out hkp (.inl (.inl rfl))
        have hD4 := blk_keep hD3.out hkp (.inl (.inr rfl))
        have p0 : w2.cell? ⟨gp, 0, none⟩ = some (.int .u64 (N : Int)) := hp2.cell 0
        have p1 : w2.cell? ⟨gp, 1, none⟩ = some (.int .u64 (D : Int)) := hp2.cell 1
        have d0 : w2.cell? ⟨gD, 0, none⟩ = some (.int .i64 (dn : Int)) := hD4.cell 0
        rw [← orbL_succ] at hJ2
        obtain ⟨T, hT⟩ : ∃ T, T = turnX N D dn 1 := ⟨_, rfl⟩
        obtain ⟨N2, hN2⟩ : ∃ a, a = T / Nat.gcd T D := ⟨_, rfl⟩
        obtain ⟨D2, hD2⟩ : ∃ a, a = D / Nat.gcd T D := ⟨_, rfl⟩
        have hTe : Hid (T = N * dn % D) := Lib.hid (by rw [hT, turnX_eq, Nat.pow_one])
        have hnext : Hid ((N2, D2) = orbM x y dn (j + 1)) := Lib.hid (by
          rw [← orbM_next y0 hND.out, hN2, hD2, hT]; rfl)
        replace hN2 := Lib.hid hN2
        replace hD2 := Lib.hid hD2
        replace hp2 := Lib.hid hp2
        replace hA4 := Lib.hid hA4
        replace hD4 := Lib.hid hD4
        replace hJ2 := Lib.hid hJ2
        clear hkp hT hy hrd hp hA3 hD3 hJj
        gi_wp2_with fail
        refine ⟨trivial, rfl, (callsIn_wide.2 (turn_any N D dn T N2 D2 _ (by omega) (by omega) (by omega) (by omega) hTe hN2 hD2)).mono ?_⟩
        rintro e w3 ⟨rfl, hb⟩
        have hp3 := Blk.below hp2.out hb
        have f0 := hp3.frozen 0
        have f1 := hp3.frozen 1
        have q0 : w3.cell? ⟨gp, 0, none⟩ = some (.int .u64 (N : Int)) := hp3.cell 0
        have q1 : w3.cell? ⟨gp, 1, none⟩ = some (.int .u64 (D : Int)) := hp3.cell 1
        have hp5 : Blk ((w3.setCell ⟨gp, 0, none⟩ (.int .u64 (N2 : Int))).setCell ⟨gp, 1, none⟩ (.int .u64 (D2 : Int))) gp 101 #[.int .u64 (N2 : Int), .int .u64 (D2 : Int)] := (hp3.set_ 0 _).set_ 1 _
        have hA5 : Blk ((w3.setCell ⟨gp, 0, none⟩ (.int .u64 (N2 : Int))).setCell ⟨gp, 1, none⟩ (.int .u64 (D2 : Int))) gA 24 #[.bool ng, .string nu, .string de] := ((Blk.below hA4.out hb).far (p := ⟨gp, 0, none⟩) (by simp; omega) _).far (p := ⟨gp, 1, none⟩) (by simp; omega) _
        have hD5 : Blk ((w3.setCell ⟨gp, 0, none⟩ (.int .u64 (N2 : Int))).setCell ⟨gp, 1, none⟩ (.int .u64 (D2 : Int))) gD 3 #[.int .i64 (dn : Int)] := ((Blk.below hD4.out hb).far (p := ⟨gp, 0, none⟩) (by simp; omega) _).far (p := ⟨gp, 1, none⟩) (by simp; omega) _
        have hJ5 : J m (orbL x y dn (j + 1)) ((w3.setCell ⟨gp, 0, none⟩ (.int .u64 (N2 : Int))).setCell ⟨gp, 1, none⟩ (.int .u64 (D2 : Int))) :=
          hJ.out _ _ _ _ hJ2.out (((outB_of_below hb).setCell (p := ⟨gp, 0, none⟩) (by simp; omega) (by simp; omega) _).setCell (p := ⟨gp, 1, none⟩) (by simp; omega) (by simp; omega) _)
        replace hp5 := Lib.hid hp5
        replace hA5 := Lib.hid hA5
        replace hD5 := Lib.hid hD5
        replace hJ5 := Lib.hid hJ5
        clear hb hp2 hA4 hD4 hJ2 hp3 p0 p1 d0
        gi_wp2_with fail
        go_roundw
        case rel => exact ⟨j + 1, N2, D2, by go_num, by omega, hnext.out, hp5.out, hA5.out, hD5.out, hJ5.out⟩
        case measure => simp [intOf]; omega
      · have hpre2 : orbL x y dn j ++ [orbM x y dn j] <+: R := by
          rw [← orbL_succ, hRe.out, ← orbL_take (show j + 1 ≤ t by omega)]
          exact List.take_prefix _ _
        replace hpre2 := Lib.hid hpre2
        replace hJx2 := Lib.hid hJx2
        clear hy hrd
        gi_wp2_with fail
        refine bodyPost_ret (results_none rfl _ _ _) rfl ?_
        exact ⟨⟨_, rfl⟩, m, .inr ⟨_, hpre2.out, hJx2.out⟩⟩
    · obtain rfl : j = t := by omega
      have hjI : ¬ (j : Int) < (j : Int) := by omega
      replace hJj := Lib.hid hJj
      clear hp hA3 hD3 hND
      go_wp2_with fail
      go_end0
      exact ⟨⟨_, rfl⟩, m, .inl (by rw [hRe.out]; exact hJj.out)⟩
end Go.Proofs.YtbddlbhanpjdnaaGreatDoor

namespace Go.Proofs.YtbddlbhanpjdnaaGreatDoor
open Go.RowKit Go.Sort

/-- What the document's orbit is, of at most so many. -/
def RetOrb (n : Nat) (b : Bool) (x y d : Nat) (w : World) (e : Ending) (w' : World) : Prop :=
  ∃ v, e = .returned (.tuple #[v, .bool b]) ∧ w'.ownsRow w.heap.size 37 2 v n (angC (orbL x y d n)) ∧ Below w.heap.size w w'

set_option maxRecDepth 100000 in
set_option maxHeartbeats 4000000 in
/-- filigreeref21.Orbit -/
theorem rorbit_any (x y dn most : Nat) (w : World) (k1 : x < y) (l : y ≤ 2147483647) (hgc : Nat.gcd x y = 1) (hd : 2 ≤ dn) (hd2 : dn ≤ 64) (hm : most ≤ 100000) :
    Calls Tryz.prog 38 #[.agg #[.int .u64 (x : Int), .int .u64 (y : Int)], .int .i64 (dn : Int), .int .i64 (most : Int)] w (RetOrb (min most (orbN y dn)) (decide (orbN y dn < most)) x y dn w) := by
  obtain ⟨i0, hi, hz0, hz1, hz2⟩ := info_parts info_angle
  have y0 : 0 < y := by omega
  obtain ⟨t, ht⟩ : ∃ t, t = orbN y dn := ⟨_, rfl⟩
  have ht1 : 1 ≤ t := by rw [ht]; exact orbN_pos y0
  have hback : ∃ p, p < t ∧ orbM x y dn t = orbM x y dn p := ⟨(kindN y dn).1, by have := kindN_pos (d := dn) y0; rw [ht]; unfold orbN; omega, by rw [ht]; exact orbM_back (by omega) y0⟩
  have hnew : ∀ i j, i < j → j < t → orbM x y dn i ≠ orbM x y dn j := fun i j h1 h2 => orbM_new (by omega) y0 hgc h1 (by rw [← ht]; exact h2)
  rw [← ht]
  have hstart : Hid ((x, y) = orbM x y dn 0) := Lib.hid (orbM_zero hgc k1).symm
  have hBW : Below w.heap.size w (w.alloc (.cells #[.int .u64 (x : Int), .int .u64 (y : Int)] 37)) := (Below.refl _ w).alloc (Nat.le_refl _) _
  have kp := Blk.new w 37 #[.int .u64 (x : Int), .int .u64 (y : Int)]
  obtain ⟨gp, hgp⟩ : ∃ g, g = w.heap.size := ⟨_, rfl⟩
  rw [← hgp] at kp
  have hgs : w.heap.size ≤ gp := by omega
  replace kp := Lib.hid kp
  replace hBW := Lib.hid hBW
  replace hgp := Lib.hid hgp
  replace hback := Lib.hid hback
  replace hnew := Lib.hid hnew
  clear hgc ht
  go_enter Tryz.func38, Tryz.ntmps38
  go_wp2_with fail
  rw [← hgp.out]
  go_loopw [6, 8] (fun v _ wr => ∃ (n N D : Nat), n ≤ most ∧ n ≤ t ∧ (N, D) = orbM x y dn n ∧ wr.ownsRow (gp + 1) 37 2 v n (angC (orbL x y dn n)) ∧ Blk wr gp 37 #[.int .u64 (N : Int), .int .u64 (D : Int)] ∧ Below w.heap.size w wr) (fun v _ _ => most - lenV v)
  case atStart => exact ⟨0, x, y, Nat.zero_le _, Nat.zero_le _, hstart.out, World.ownsRow_nil _ _ _ _, kp.out, hBW.out⟩
  case round =>
    obtain ⟨n, N, D, hn1, hn2, hND, hown, hp, hB⟩ := hrel
    obtain ⟨cc, hvl⟩ : ∃ (A : Option Addr × Nat), u6 = .slice A.1 n A.2 := by
      rcases own_forms hown with ⟨rfl, h⟩ | ⟨g, cap, rfl⟩
      · subst h; exact ⟨(none, 0), rfl⟩
      · exact ⟨(some ⟨g, 0, none⟩, cap), rfl⟩
    obtain ⟨A0, cap⟩ := cc
    simp only at hvl
    subst hvl
    have hND' := Lib.hid hND
    have hf := orbM_facts (x := x) (d := dn) (n := n) y0
    rw [← hND] at hf
    obtain ⟨f1, f2, f3⟩ := hf
    simp only at f1 f2 f3
    replace hown := Lib.hid hown
    replace hp := Lib.hid hp
    replace hB := Lib.hid hB
    clear hND f1
    by_cases h0 : n < most
    · have h0I : (n : Int) < (most : Int) := by omega
      go_wp2_with fail
      go_loopw [6, 8] (fun lv iv wq => lv = .slice A0 n cap ∧ ∃ i : Nat, iv = .int .i64 (i : Int) ∧ i ≤ n ∧ (∀ j, j < i → orbM x y dn j ≠ (N, D)) ∧ Dr wr wq) (fun _ iv _ => n - (intOf iv).toNat)
      case atStart => exact ⟨rfl, 0, rfl, Nat.zero_le _, fun j hj => by omega, Dr.refl _⟩
      case round =>
        obtain ⟨rfl, i, rfl, hi2, hno, nd, rfl⟩ := hrel
        replace hno := Lib.hid hno
        by_cases hin : i < n
        · have hinI : (i : Int) < (n : Int) := by omega
          rcases own_forms hown.out with ⟨-, h⟩ | ⟨g, capg, eg⟩
          · omega
          injection eg with eg1 em eg2
          subst eg1 eg2
          clear em
          obtain ⟨s0, s1⟩ := angC_get _ i _ (orbL_get (x := x) (y := y) (d := dn) hin)
          obtain ⟨N1, hN1⟩ : ∃ a, a = (orbM x y dn i).1 := ⟨_, rfl⟩
          obtain ⟨D1, hD1⟩ : ∃ a, a = (orbM x y dn i).2 := ⟨_, rfl⟩
          rw [← hN1] at s0
          rw [← hD1] at s1
          have c0 : wr.cell? ⟨g, i * 2, none⟩ = some (.int .u64 (N1 : Int)) := by rw [hown.out.cellAt _ (by omega)]; exact s0
          have c1 : wr.cell? ⟨g, i * 2 + 1, none⟩ = some (.int .u64 (D1 : Int)) := by rw [hown.out.cellAt _ (by omega)]; exact s1
          have p0 : wr.cell? ⟨gp, 0, none⟩ = some (.int .u64 (N : Int)) := hp.out.cell 0
          have p1 : wr.cell? ⟨gp, 1, none⟩ = some (.int .u64 (D : Int)) := hp.out.cell 1
          have hiI : (0 : Int) ≤ (i : Int) := by omega
          clear s0 s1
          by_cases heq : N1 = N ∧ D1 = D
          · obtain ⟨rfl, rfl⟩ := heq
            have hnt : n = t := by
              rcases Nat.lt_or_ge n t with h | h
              · exact absurd (by rw [← hND'.out, hN1, hD1]) (hnew.out i n hin h)
              · omega
            have hres : Hid (min most t = n ∧ decide (t < most) = true) := Lib.hid ⟨by omega, decide_eq_true (by omega)⟩
            clear hN1 hD1 hnt
            go_wp2_with fail
            go_quiet (fail)
            go_wp2_with fail
            go_ret2
            exact ⟨_, by rw [hres.out.2]; rfl, by rw [hres.out.1]; exact own_le (own_drewN (own_drewN hown.out nd) nq) (by omega), below_drewN (below_drewN hB.out nd) nq⟩
          · have hno2 : Hid (∀ j, j < i + 1 → orbM x y dn j ≠ (N, D)) := Lib.hid (fun j hj => by
              by_cases e : j = i
              · subst e
                intro he
                exact heq ⟨by rw [hN1, he], by rw [hD1, he]⟩
              · exact hno.out j (by omega))
            have hcs : N1 ≠ N ∨ (N1 = N ∧ D1 ≠ D) := by
              by_cases e : N1 = N
              · exact .inr ⟨e, fun e2 => heq ⟨e, e2⟩⟩
              · exact .inl e
            clear hN1 hD1 heq hno
            rcases hcs with hc | ⟨rfl, hc⟩
            · have hcI : ¬ (N1 : Int) = (N : Int) := by omega
              go_wp2_with fail
              go_quiet (fail)
              go_wp2_with fail
              go_roundw
              case rel => exact ⟨rfl, i + 1, by go_num, by omega, hno2.out, ⟨nd + nq, rfl⟩⟩
              case measure => simp [intOf]; omega
            · have hcI : ¬ (D1 : Int) = (D : Int) := by omega
              go_wp2_with fail
              go_quiet (fail)
              go_wp2_with fail
              go_roundw
              case rel => exact ⟨rfl, i + 1, by go_num, by omega, hno2.out, ⟨nd + nq, rfl⟩⟩
              case measure => simp [intOf]; omega
        · obtain rfl : i = n := by omega
          have hinI : ¬ (i : Int) < (i : Int) := by omega
          have hnt : i < t := by
            rcases Nat.lt_or_ge i t with h | h
            · exact h
            · exfalso
              have e : i = t := by omega
              obtain ⟨p, hp1, hp2⟩ := hback.out
              have h3 := hno.out p (by omega)
              rw [← hp2, ← e, ← hND'.out] at h3
              exact h3 rfl
          obtain ⟨T, hT⟩ : ∃ T, T = turnX N D dn 1 := ⟨_, rfl⟩
          obtain ⟨N2, hN2⟩ : ∃ a, a = T / Nat.gcd T D := ⟨_, rfl⟩
          obtain ⟨D2, hD2⟩ : ∃ a, a = D / Nat.gcd T D := ⟨_, rfl⟩
          have hTe : Hid (T = N * dn % D) := Lib.hid (by rw [hT, turnX_eq, Nat.pow_one])
          have hnext : Hid ((N2, D2) = orbM x y dn (i + 1)) := Lib.hid (by
            rw [← orbM_next y0 hND'.out, hN2, hD2, hT]; rfl)
          have hdg : Hid (angC (orbL x y dn (i + 1)) = angC (orbL x y dn i) ++ [.int .u64 (N : Int), .int .u64 (D : Int)]) := Lib.hid (by
            rw [orbL_succ, angC_snoc, ← hND'.out])
          have b1 : Hid (N ≤ 2147483647) := Lib.hid (by omega)
          have b2 : Hid (D ≤ 2147483647) := Lib.hid (by omega)
          have b3 : Hid (0 < D) := Lib.hid (by omega)
          replace hN2 := Lib.hid hN2
          replace hD2 := Lib.hid hD2
          obtain ⟨wo, hwo⟩ : ∃ wo : World, wo = wr.drewN nd := ⟨_, rfl⟩
          have hown0 := Lib.hid (show wo.ownsRow (gp + 1) 37 2 (.slice A0 i cap) i (angC (orbL x y dn i)) by rw [hwo]; exact own_drewN hown.out nd)
          have hp0 := Lib.hid (show Blk wo gp 37 #[.int .u64 (N : Int), .int .u64 (D : Int)] by rw [hwo]; exact Blk.drewN hp.out nd)
          have hB0 := Lib.hid (show Below w.heap.size w wo by rw [hwo]; exact below_drewN hB.out nd)
          rw [← hwo]
          have c0 : wo.cell? ⟨gp, 0, none⟩ = some (.int .u64 (N : Int)) := hp0.out.cell 0
          have c1 : wo.cell? ⟨gp, 1, none⟩ = some (.int .u64 (D : Int)) := hp0.out.cell 1
          clear hwo hown hp hB hT hno hND'
          go_wp2_with (at_builtin; refine wpList_append_own _ rfl _ _ 73 rfl (gp + 1) 37 i0 (.agg #[.int .u64 0, .int .u64 0]) 2 16 Tryz.underlying73 hi hz0 hz1 hz2 rfl (by decide) _ _ _ rfl (hown0.out.alloc _) ⟨wo.heap.size, 0, none⟩ 1 1 [.int .u64 (N : Int), .int .u64 (D : Int)] rfl rfl ?d1 ?d2 ?d3 ?d4 ?d5 ?_)
          case d2 => exact ⟨rfl, rfl⟩
          case d3 => unfold maxLen; omega
          case d4 => omega
          case d5 => have := hp0.out.lt; simp; omega
          intro v' w3 hown' hgrow _
          have hB3 : Below w.heap.size w w3 := (hB0.out.alloc hB0.out.size _).grown hgrow (by have := hB0.out.size; simp; omega) (fun k hk => by have := (hown0.out.lt k hk).1; omega)
          have hp3 : Blk w3 gp 37 #[.int .u64 (N : Int), .int .u64 (D : Int)] := Blk.grown (hp0.out.alloc _) hgrow (fun e => by have := (hown0.out.lt _ e.symm).1; omega)
          rw [← hdg.out] at hown'
          have e0 : w3.cell? ⟨gp, 0, none⟩ = some (.int .u64 (N : Int)) := hp3.cell 0
          have e1 : w3.cell? ⟨gp, 1, none⟩ = some (.int .u64 (D : Int)) := hp3.cell 1
          replace hown' := Lib.hid hown'
          replace hp3 := Lib.hid hp3
          replace hB3 := Lib.hid hB3
          clear hgrow hown0 hp0 hB0 c0 c1 hdg
          go_wp2_with fail
          refine (rturn_any N D dn T N2 D2 _ b1.out b3.out b2.out (by omega) hTe hN2 hD2).mono ?_
          rintro e w4 ⟨rfl, hb⟩
          have hown4 := own_below hown'.out hb
          have hp4 := Blk.below hp3.out hb
          have hB4 := hB3.out.trans (hb.mono hB3.out.size)
          have f0 := hp4.frozen 0
          have f1 := hp4.frozen 1
          have e0 : w4.cell? ⟨gp, 0, none⟩ = some (.int .u64 (N : Int)) := hp4.cell 0
          have e1 : w4.cell? ⟨gp, 1, none⟩ = some (.int .u64 (D : Int)) := hp4.cell 1
          have hp5 : Blk ((w4.setCell ⟨gp, 0, none⟩ (.int .u64 (N2 : Int))).setCell ⟨gp, 1, none⟩ (.int .u64 (D2 : Int))) gp 37 #[.int .u64 (N2 : Int), .int .u64 (D2 : Int)] := (hp4.set_ 0 _).set_ 1 _
          have hown5 : ((w4.setCell ⟨gp, 0, none⟩ (.int .u64 (N2 : Int))).setCell ⟨gp, 1, none⟩ (.int .u64 (D2 : Int))).ownsRow (gp + 1) 37 2 v' (i + 1) (angC (orbL x y dn (i + 1))) := ownsRow_setCell_below (ownsRow_setCell_below hown4 (by simp) _) (by simp) _
          have hB5 : Below w.heap.size w ((w4.setCell ⟨gp, 0, none⟩ (.int .u64 (N2 : Int))).setCell ⟨gp, 1, none⟩ (.int .u64 (D2 : Int))) := (hB4.setCell (p := ⟨gp, 0, none⟩) hgs _).setCell (p := ⟨gp, 1, none⟩) hgs _
          have hms : lenV v' = i + 1 := by
            rcases own_forms hown'.out with ⟨-, h⟩ | ⟨g, capg, rfl⟩
            · omega
            · rfl
          replace hms := Lib.hid hms
          replace hown5 := Lib.hid hown5
          replace hp5 := Lib.hid hp5
          replace hB5 := Lib.hid hB5
          clear hb hown' hp3 hB3 hown4 hp4 hB4
          go_wp2_with fail
          go_roundw
          case rel => exact ⟨i + 1, N2, D2, by omega, by omega, hnext.out, hown5.out, hp5.out, hB5.out⟩
          case measure => rw [hms.out]; simp [lenV]; omega
    · obtain rfl : n = most := by omega
      have h0I : ¬ (n : Int) < (n : Int) := by omega
      have hres : Hid (min n t = n ∧ decide (t < n) = false) := Lib.hid ⟨by omega, decide_eq_false (by omega)⟩
      clear hp
      go_wp2_with fail
      go_ret2
      exact ⟨_, by first | rfl | (rw [hres.out.2]; rfl), by first | exact own_le hown.out (by omega) | (rw [hres.out.1]; exact own_le hown.out (by omega)), hB.out⟩
end Go.Proofs.YtbddlbhanpjdnaaGreatDoor

namespace Go.Proofs.YtbddlbhanpjdnaaGreatDoor
open Go.RowKit Go.Sort

/-- A function is not nil. -/
theorem eql_func_nil {P : Program} (w : World) {t : TypeId} {a b : Array TypeId} {c : Bool} (h : P.underlying t = some (.func a b c)) (f : Fn) (ts lb : Array Value) :
    (binOp .eql t (.func f ts lb) .nilFunc).run P w = .ok (.bool false) w := by
  have hh : ∀ d : Nat, (Op.equalIn (d + 1) t (.func f ts lb) .nilFunc).run P w = .ok false w := fun d => by
    simp [Op.equalIn, run_underlying h]
  simp only [binOp]
  simp [Op.equal, Op.maxDepth, hh 9999]

/-- What Orbit hands back. -/
def RetIt (ng : Bool) (nu de : ByteArray) (d : Int) (w : World) (e : Ending) (w' : World) : Prop :=
  ∃ gA gD, e = .returned (.func (.func 60) #[] #[.pointer (some ⟨gA, 0, none⟩), .pointer (some ⟨gD, 0, none⟩)]) ∧ Blk w' gA 24 #[.bool ng, .string nu, .string de] ∧ Blk w' gD 3 #[.int .i64 d] ∧ Below w.heap.size w w'

set_option maxRecDepth 100000 in
/-- angle.Orbit -/
theorem orbit_any (ng : Bool) (nu de : ByteArray) (d : Int) (w : World) :
    Calls Tryz.prog 33 #[.agg #[.bool ng, .string nu, .string de], .int .i64 d] w (RetIt ng nu de d w) := by
  have k1 := (Blk.new w 24 #[.bool ng, .string nu, .string de]).alloc (.cells #[.int .i64 d] 3)
  have k2 := Blk.new (w.alloc (.cells #[.bool ng, .string nu, .string de] 24)) 3 #[.int .i64 d]
  have hb : Below w.heap.size w ((w.alloc (.cells #[.bool ng, .string nu, .string de] 24)).alloc (.cells #[.int .i64 d] 3)) := ((Below.refl _ w).alloc (Nat.le_refl _) _).alloc (by simp) _
  replace k1 := Lib.hid k1
  replace k2 := Lib.hid k2
  replace hb := Lib.hid hb
  go_enter Tryz.func33, Tryz.ntmps33
  go_wp2_with fail
  go_ret
  exact ⟨_, _, rfl, k1.out, by simpa using k2.out, hb.out⟩

theorem gb_out {a A B : World} {r : Option Nat} {hi : Nat} (h : a.grownBy A r) (ho : OutB a.heap.size hi A B) : a.grownBy B r :=
  ⟨ho.os.trans h.os, ho.tape.trans h.tape, ho.output.trans h.output, Nat.le_trans h.size ho.size, fun k hk hne => (ho.block k (Nat.lt_of_lt_of_le hk h.size) (by omega)).trans (h.block k hk hne)⟩
theorem blk_out {A B : World} {g lo hi : Nat} {T : TypeId} {cs : Array Value} (h : Blk A g T cs) (hg : g < lo) (ho : OutB lo hi A B) : Blk B g T cs := (ho.block g h.lt (by omega)).trans h

/-- A function's way out, past one mark, past two. -/
theorem leaves_one {P : Program} {fn : Func} {tmps : Array Value} {R : Ending → World → Prop} {W : World} {v : Value} {D : Nat} (hK : W.heap[D]? = some (.deferred (some []))) (hr : (results fn tmps).run P (W.putObj D (.deferred none)) = .ok v (W.putObj D (.deferred none)))
    (hR : R (.returned v) (W.putObj D (.deferred none))) : LeavesInM Fence.wide 0 P fn tmps R [{ target := .collected D, args := #[] }] .returning W :=
  ⟨by simp, .inl ⟨_, _, rfl, run_takeDeferred hK, ⟨_, hr, hR⟩⟩⟩
theorem leaves_two {P : Program} {fn : Func} {tmps : Array Value} {R : Ending → World → Prop} {W : World} {v : Value} {D E : Nat} (hK : W.heap[D]? = some (.deferred (some []))) (hE : W.heap[E]? = some (.deferred (some []))) (hne : E ≠ D)
    (hr : (results fn tmps).run P ((W.putObj D (.deferred none)).putObj E (.deferred none)) = .ok v ((W.putObj D (.deferred none)).putObj E (.deferred none)))
    (hR : R (.returned v) ((W.putObj D (.deferred none)).putObj E (.deferred none))) : LeavesInM Fence.wide 0 P fn tmps R [{ target := .collected D, args := #[] }, { target := .collected E, args := #[] }] .returning W :=
  ⟨by simp, .inl ⟨_, _, rfl, run_takeDeferred hK, leaves_one ((World.putObj_heap_other hne).trans hE) hr hR⟩⟩
theorem blk_put {W : World} {g r : Nat} {T : TypeId} {cs : Array Value} (h : Blk W g T cs) (hne : g ≠ r) (o : Obj) : Blk (W.putObj r o) g T cs := (World.putObj_heap_other hne).trans h
theorem below_put {B r : Nat} {a W : World} (h : Below B a W) (hr : B ≤ r) (o : Obj) : Below B a (W.putObj r o) :=
  h.trans ⟨rfl, rfl, rfl, by simp, fun k hk => World.putObj_heap_other (by omega)⟩
theorem put_set {W : World} {D : Nat} {o : Obj} {p : Addr} (h : W.heap[D]? = some o) (hne : D ≠ p.block) (v : Value) : (W.setCell p v).heap[D]? = some o := (Below.heap_setCell W p v D hne).trans h
theorem gb_new {a b c : World} {g : Nat} (h : a.grownBy b none) (k : b.grownBy c (some g)) (hg : a.heap.size ≤ g) : a.grownBy c none :=
  ⟨k.os.trans h.os, k.tape.trans h.tape, k.output.trans h.output, Nat.le_trans h.size k.size, fun i hi hne => (k.block i (Nat.lt_of_lt_of_le hi h.size) (fun e => by injection e; omega)).trans (h.block i hi hne)⟩
theorem own_put {W : World} {base : Nat} {T : TypeId} {size : Nat} {v : Value} {n : Nat} {xs : List Value} (h : W.ownsRow base T size v n xs) {r : Nat} (hne : v.ownBlock ≠ some r) (o : Obj) : (W.putObj r o).ownsRow base T size v n xs :=
  h.kept (grownBy_putObj' W r o) (.inr hne)
theorem no_prefix {α : Type} {pre : List α} {x : α} (h : pre ++ [x] <+: []) : False := by
  have := List.prefix_nil.1 h
  simp at this

attribute [local go_sem] Oper.semAt_some
end Go.Proofs.YtbddlbhanpjdnaaGreatDoor
