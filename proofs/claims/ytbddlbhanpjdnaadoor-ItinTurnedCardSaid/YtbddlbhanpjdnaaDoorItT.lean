/- filigreelaw22.ItinTurned: the walk. -/
import Derived.Test.YtbddlbhanpjdnaaDoorItP
import Derived.Test.YtbddlbhanpjdnaaDoorItZ
import Derived.Test.YtbddlbhanpjdnaaDoorItE
import Derived.Test.YtbddlbhanpjdnaaDoorSame
import Derived.Deep.CutBlock
namespace Go.Proofs.YtbddlbhanpjdnaaDoor
open Go.RowKit Go.Sort
attribute [local go_sem] Oper.semAt_some

/-- The turned angle's row is the row from the next place on. -/
theorem turned_low {s t x y d N D : Nat} (hd : 1 ≤ d) (hy : 0 < y) (h : (N, D) = orbM x y d 1) : shP (ofP s t x y d) (ofQ s t x y d) 1 = ofP s t N D d ∧ shQ (ofP s t x y d) (ofQ s t x y d) 1 = ofQ s t N D d := by
  have hD : 0 < D := by
    have := orbM_facts (x := x) (d := d) (n := 1) hy
    rw [← h] at this
    simp only at this
    omega
  have hq : 0 < (ofQ s t x y d).length := by unfold ofQ; exact lowQ_pos (raw_len hy).2
  unfold shP shQ
  refine of_low hD hd (by rw [shB_len]; exact hq) fun n => ?_
  rw [sh_at hq, of_at hd hy, Nat.add_comm]
  exact (symF_turn hy h).symm

/-- What Orbit hands back, in new blocks. -/
def RetItF (ng : Bool) (nu de : ByteArray) (d : Int) (w : World) (e : Ending) (w' : World) : Prop :=
  ∃ gA gD, e = .returned (.func (.func 50) #[] #[.pointer (some ⟨gA, 0, none⟩), .pointer (some ⟨gD, 0, none⟩)]) ∧ Blk w' gA 25 #[.bool ng, .string nu, .string de] ∧ Blk w' gD 3 #[.int .i64 d] ∧ Below w.heap.size w w' ∧ w.heap.size ≤ gA ∧ w.heap.size ≤ gD

set_option maxRecDepth 100000 in
/-- angle.Orbit -/
theorem orbitF_any (ng : Bool) (nu de : ByteArray) (d : Int) (w : World) :
    Calls Tryd.prog 29 #[.agg #[.bool ng, .string nu, .string de], .int .i64 d] w (RetItF ng nu de d w) := by
  have k1 := (Blk.new w 25 #[.bool ng, .string nu, .string de]).alloc (.cells #[.int .i64 d] 3)
  have k2 := Blk.new (w.alloc (.cells #[.bool ng, .string nu, .string de] 25)) 3 #[.int .i64 d]
  have hb : Below w.heap.size w ((w.alloc (.cells #[.bool ng, .string nu, .string de] 25)).alloc (.cells #[.int .i64 d] 3)) := ((Below.refl _ w).alloc (Nat.le_refl _) _).alloc (by simp) _
  replace k1 := Lib.hid k1
  replace k2 := Lib.hid k2
  replace hb := Lib.hid hb
  go_enter Tryd.func29, Tryd.ntmps29
  go_wp2_with fail
  go_ret
  exact ⟨_, _, rfl, k1.out, by simpa using k2.out, hb.out, Nat.le_refl _, by omega⟩

set_option maxRecDepth 100000 in
set_option maxHeartbeats 8000000 in
/-- filigreelaw22.ItinTurned -/
theorem itinTurned_any (n1 : Bool) (a1 d1 : ByteArray) (n2 : Bool) (a2 d2 : ByteArray) (d : Int) (w : World)
    (z1 : a1.size ≤ 9223372036854775807) (y1 : d1.size ≤ 9223372036854775807) (z2 : a2.size ≤ 9223372036854775807) (y2 : d2.size ≤ 9223372036854775807) (_ : (Lit.int .i64 d).wf = true) :
    Calls Tryd.prog 8 #[.agg #[.bool n1, .string a1, .string d1], .agg #[.bool n2, .string a2, .string d2], .int .i64 d] w (RetVal (.bool true) w) := by
  obtain ⟨E, hE⟩ : ∃ E, E = ofE (okA n1 a1 d1) (okA n2 a2 d2) (be (sl d2)) d := ⟨_, rfl⟩
  obtain ⟨P, hP⟩ : ∃ P, P = if E = 0 then ofP (be (sl a1)) (be (sl d1)) (be (sl a2)) (be (sl d2)) d.toNat else [] := ⟨_, rfl⟩
  obtain ⟨Q, hQ⟩ : ∃ Q, Q = if E = 0 then ofQ (be (sl a1)) (be (sl d1)) (be (sl a2)) (be (sl d2)) d.toNat else [] := ⟨_, rfl⟩
  have hO := Lib.hid (fun W => iOf_any n1 a1 d1 n2 a2 d2 d W z1 y1 z2 y2 E hE P Q hP hQ)
  have hT1 := Lib.hid (fun W => turn1_any n2 a2 d2 d W z2 y2)
  have hBW : Below w.heap.size w ((((w.alloc (.cells #[.bool n1, .string a1, .string d1] 25)).alloc (.cells #[.bool n2, .string a2, .string d2] 25)).alloc (.cells #[.int .i64 d] 3)).alloc (.cells #[.bool false] 4)) :=
    ((((Below.refl _ w).alloc (Nat.le_refl _) _).alloc (by simp) _).alloc (by simp; omega) _).alloc (by simp; omega) _
  have ka := (((Blk.new w 25 #[.bool n1, .string a1, .string d1]).alloc (.cells #[.bool n2, .string a2, .string d2] 25)).alloc (.cells #[.int .i64 d] 3)).alloc (.cells #[.bool false] 4)
  have kb := ((Blk.new (w.alloc (.cells #[.bool n1, .string a1, .string d1] 25)) 25 #[.bool n2, .string a2, .string d2]).alloc (.cells #[.int .i64 d] 3)).alloc (.cells #[.bool false] 4)
  have kd := (Blk.new ((w.alloc (.cells #[.bool n1, .string a1, .string d1] 25)).alloc (.cells #[.bool n2, .string a2, .string d2] 25)) 3 #[.int .i64 d]).alloc (.cells #[.bool false] 4)
  have kr := Blk.new (((w.alloc (.cells #[.bool n1, .string a1, .string d1] 25)).alloc (.cells #[.bool n2, .string a2, .string d2] 25)).alloc (.cells #[.int .i64 d] 3)) 4 #[.bool false]
  simp only [World.size_alloc] at kb kd kr
  have K := Lib.hid ((KeepR.one ka).snoc kb)
  have hB := Lib.hid hBW
  replace kd := Lib.hid kd
  replace kr := Lib.hid kr
  replace hE := Lib.hid hE
  replace hP := Lib.hid hP
  replace hQ := Lib.hid hQ
  clear ka kb hBW
  have hnil := fun (W : World) (f : Fn) (ts lb : Array Value) => eql_func_nil (P := Tryd.prog) W Tryd.underlying59 f ts lb
  refine callsIn_wide.1 (callsIn_of_wp_marks (n := 0) Tryd.func8 rfl trivial ?_ rfl)
  simp only [Tryd.ntmps8, List.size_toArray, List.length_cons, List.length_nil, Nat.reduceAdd, Nat.reduceSub, Array.replicate_succ, Array.replicate_zero, List.push_toArray, List.append_toArray, List.nil_append, List.cons_append]
  refine wpIn_wide.2 ?_
  go_wp2_with fail
  refine (lives_any _).mono ?_
  rintro en w1 ⟨rfl, hb⟩
  replace K := Lib.hid (K.out.below hb)
  replace kd := Lib.hid (Blk.below kd.out hb)
  replace kr := Lib.hid (Blk.below kr.out hb)
  replace hB := Lib.hid (hB.out.trans (hb.mono hB.out.size))
  clear hb
  have aa0 : w1.cell? ⟨w.heap.size, 0, none⟩ = some (.bool n1) := (K.out.at_ 0 rfl).cell 0
  have aa1 : w1.cell? ⟨w.heap.size, 1, none⟩ = some (.string a1) := (K.out.at_ 0 rfl).cell 1
  have aa2 : w1.cell? ⟨w.heap.size, 2, none⟩ = some (.string d1) := (K.out.at_ 0 rfl).cell 2
  have bb0 : w1.cell? ⟨w.heap.size + 1, 0, none⟩ = some (.bool n2) := (K.out.at_ 1 rfl).cell 0
  have bb1 : w1.cell? ⟨w.heap.size + 1, 1, none⟩ = some (.string a2) := (K.out.at_ 1 rfl).cell 1
  have bb2 : w1.cell? ⟨w.heap.size + 1, 2, none⟩ = some (.string d2) := (K.out.at_ 1 rfl).cell 2
  have dd0 : w1.cell? ⟨w.heap.size + 1 + 1, 0, none⟩ = some (.int .i64 d) := kd.out.cell 0
  go_wp2_with fail
  refine (hO.out _).mono ?_
  rintro en w2 ⟨v1, v2, rfl, ⟨g1, S1, rfl⟩, ⟨g2, S2, rfl⟩, hb⟩
  have hr1 := g1.rd
  have hr2 := g2.rd
  have hBn := hB.out.trans (hb.mono hB.out.size)
  replace hB := Lib.hid (hBn.alloc hBn.size (.cells #[.slice S1 P.length P.length, .slice S2 Q.length Q.length] 28))
  replace K := Lib.hid ((K.out.below hb).alloc (.cells #[.slice S1 P.length P.length, .slice S2 Q.length Q.length] 28))
  replace kd := Lib.hid ((Blk.below kd.out hb).alloc (.cells #[.slice S1 P.length P.length, .slice S2 Q.length Q.length] 28))
  replace kr := Lib.hid ((Blk.below kr.out hb).alloc (.cells #[.slice S1 P.length P.length, .slice S2 Q.length Q.length] 28))
  have ks := Lib.hid (Keeps.one (Blk.new w2 28 #[.slice S1 P.length P.length, .slice S2 Q.length Q.length]))
  replace hr1 := Lib.hid (hr1.alloc (.cells #[.slice S1 P.length P.length, .slice S2 Q.length Q.length] 28))
  replace hr2 := Lib.hid (hr2.alloc (.cells #[.slice S1 P.length P.length, .slice S2 Q.length Q.length] 28))
  clear hb hBn g1 g2 aa0 aa1 aa2 bb0 bb1 bb2 dd0 hO
  go_upto_region 4 with fail
  generalize hW : w2.alloc (.cells #[.slice S1 P.length P.length, .slice S2 Q.length Q.length] 28) = w3 at hB K kd kr ks hr1 hr2 ⊢
  generalize hg : w2.heap.size = gs at ks ⊢
  clear hW hg w2
  by_cases hE0 : E = 0
  case neg =>
    have hE1 : (E != 0) = true := by rw [bne_iff_ne]; exact hE0
    have hPz : P = [] := by rw [hP.out, if_neg hE0]
    have hQz : Q = [] := by rw [hQ.out, if_neg hE0]
    subst hPz hQz
    have s0 : w3.cell? ⟨gs, 0, none⟩ = some (.slice S1 0 0) := (ks.out.at_ 0 rfl).cell 0
    have s1 : w3.cell? ⟨gs, 1, none⟩ = some (.slice S2 0 0) := (ks.out.at_ 0 rfl).cell 1
    clear hP hQ hE hr1 hr2 hE0
    go_wp2_with fail
    refine (lives_any _).mono ?_
    rintro en w4 ⟨rfl, hb⟩
    have r0 : w4.cell? ⟨w.heap.size + 1 + 1 + 1, 0, none⟩ = some (.bool false) := (Blk.below kr.out hb).cell 0
    have r1 := (Blk.below kr.out hb).frozen 0
    have kr2 := Lib.hid ((Blk.below kr.out hb).set_ 0 (.bool true))
    have hB2 := Lib.hid ((hB.out.trans (hb.mono hB.out.size)).setCell (p := ⟨w.heap.size + 1 + 1 + 1, 0, none⟩) (by simp; omega) (.bool true))
    clear hb s0 s1
    go_wp2_with fail
    have q0 := kr2.out.cell 0
    refine leaves_none (P := Tryd.prog) (fn := Tryd.f8) (v := .bool true) (by simp [results, Tryd.results8, go_sem, q0]) ⟨rfl, hB2.out⟩
  case pos =>
    subst hE0
    obtain ⟨ho1, ho2, hd1, hd2, hN⟩ := ofE_zero hE.out.symm
    obtain ⟨dn, rfl⟩ : ∃ dn : Nat, d = (dn : Int) := ⟨d.toNat, by omega⟩
    have hrb : roundB (dn : Int) = true := roundB_iff.2 ⟨hd1, hd2⟩
    have hPe := hP.out
    have hQe := hQ.out
    rw [if_pos rfl, Int.toNat_natCast] at hPe hQe
    rw [Int.toNat_natCast] at hN
    have ht1 := turnsB_rd (n := 1) ho2 hrb
    have hR := show orbR n2 a2 d2 (dn : Int) = orbL (be (sl a2)) (be (sl d2)) dn (orbN (be (sl d2)) dn) by rw [orbR, ho2, hrb, if_pos (by rfl), Int.toNat_natCast]
    obtain ⟨rfl, ma1, md1, hgs, hst, ht9⟩ := okA_spec ho1
    obtain ⟨rfl, ma2, md2, hgc, hxy, hy9⟩ := okA_spec ho2
    obtain ⟨s, hs⟩ : ∃ s, s = be (sl a1) := ⟨_, rfl⟩
    obtain ⟨t, ht⟩ : ∃ s, s = be (sl d1) := ⟨_, rfl⟩
    obtain ⟨x, hx⟩ : ∃ s, s = be (sl a2) := ⟨_, rfl⟩
    obtain ⟨y, hy⟩ : ∃ s, s = be (sl d2) := ⟨_, rfl⟩
    have ea1 : a1 = natS s := by rw [hs, natS_be ma1]
    have ed1 : d1 = natS t := by rw [ht, natS_be md1]
    have hOf : Hid (∀ N D : Nat, Nat.gcd N D = 1 → N < D → D ≤ y → orbN D dn ≤ 4096 → ∀ W, Calls Tryd.prog 26 #[.agg #[.bool false, .string a1, .string d1], .agg #[.bool false, .string (natS N), .string (natS D)], .int .i64 (dn : Int)] W (RetRowE (ofP s t N D dn) (ofQ s t N D dn) 0 W)) := Lib.hid (fun N D g1 g2 g3 g4 W => by
      have ok := okA_natS g1 g2 (by omega)
      refine iOf_any false a1 d1 false (natS N) (natS D) (dn : Int) W z1 y1 (okA_size ok).1 (okA_size ok).2 0 ?_ _ _ ?_ ?_
      · rw [ho1, ok, be_natS]
        have h9 : ¬ 4096 < orbN D dn := by omega
        simp [ofE, mayE, hrb, h9]
      · rw [if_pos rfl, be_natS, be_natS, Int.toNat_natCast, ← hs, ← ht]
      · rw [if_pos rfl, be_natS, be_natS, Int.toNat_natCast, ← hs, ← ht])
    have hTn : Hid (∀ N D : Nat, Nat.gcd N D = 1 → N < D → D ≤ y → ∀ N2 D2 : Nat, (N2, D2) = orbM N D dn 1 → ∀ W, Calls Tryd.prog 27 #[.agg #[.bool false, .string (natS N), .string (natS D)], .int .i64 (dn : Int)] W (RetVal (.tuple #[.agg #[.bool false, .string (natS N2), .string (natS D2)], .int .i64 0]) W)) := Lib.hid (fun N D g1 g2 g3 N2 D2 h2 W => by
      have ok := okA_natS g1 g2 (by omega)
      have e := turn1_any false (natS N) (natS D) (dn : Int) W (okA_size ok).1 (okA_size ok).2
      have e2 := turnsB_rd (n := 1) ok hrb
      rw [be_natS, be_natS] at e2
      rw [show ((1 : Nat) : Int) = 1 from rfl, show rd (turnX N D dn 1) D = (N2, D2) from h2.symm] at e2
      rw [e2] at e
      exact e)
    rw [← hs, ← ht, ← hx, ← hy] at hPe hQe
    rw [← hx, ← hy] at hR ht1 hgc hxy
    rw [← hy] at hN hy9
    rw [← hs, ← ht] at hgs hst
    rw [← ht] at ht9
    have hy0 : 0 < y := by omega
    obtain ⟨⟨N, D⟩, hND⟩ : ∃ m, m = orbM x y dn 1 := ⟨_, rfl⟩
    rw [show ((1 : Nat) : Int) = 1 from rfl, show rd (turnX x y dn 1) y = (N, D) from hND.symm] at ht1
    obtain ⟨f1, f2, f3⟩ := orbM_facts (x := x) (d := dn) (n := 1) hy0
    rw [← hND] at f1 f2 f3
    simp only at f1 f2 f3
    have hoN : orbN D dn ≤ 4096 := Nat.le_trans (orbN_turn hy0 hgc hND) hN
    have hOf2 := Lib.hid (hOf.out N D f1 f2 f3 hoN)
    obtain ⟨hlo1, hlo2⟩ := turned_low (s := s) (t := t) (show 1 ≤ dn by omega) hy0 hND
    rw [← hPe, ← hQe] at hlo1 hlo2
    have hmay : mayI P Q = true := by rw [hPe, hQe]; exact of_may (by omega) (by omega) hy0 hN
    have hmayT : mayI (ofP s t N D dn) (ofQ s t N D dn) = true := of_may (show 1 ≤ dn by omega) (show dn ≤ 64 by omega) (show 0 < D by omega) hoN
    obtain ⟨q1, q2, q3, q4⟩ := mayI_spec hmay
    have hs9 : ∀ v, symB v = true → v < 256 := fun v h => by simp [symB] at h; omega
    have hI : Hid (∀ W, Below w3.heap.size w3 W → Itn W (.slice S1 P.length P.length) (.slice S2 Q.length Q.length) P Q) := Lib.hid (fun W hb =>
      ⟨⟨S1, _, _, _, rfl, hr1.out.below hb⟩, ⟨S2, _, _, _, rfl, hr2.out.below hb⟩, fun v hv => hs9 v (q3 v hv), fun v hv => hs9 v (q4 v hv), by omega, by omega⟩)
    have hat : Hid (∀ i : Nat, atV P Q (i : Int) = .tuple #[.int .u8 ((symF s t x y dn i : Nat) : Int), .int .i64 0]) := Lib.hid (fun i => by
      have e : atE P Q (i : Int) = 0 := by unfold atE; rw [hmay]; simp
      rw [atV, e, if_pos rfl, Int.toNat_natCast, hPe, hQe, of_at (by omega) hy0])
    have hSt : Hid (∀ i : Nat, symF s t x y dn i = 255 ↔ orbM x y dn (i + 1) = (s, t)) := Lib.hid (fun i => star_iff (by omega) (by omega) hy0 hgs hst)
    have hSl : Hid (∀ i : Nat, symF s t x y dn i = 255 ∨ symF s t x y dn i < dn) := Lib.hid (fun i => symV_or (by omega))
    obtain ⟨PT, hPT⟩ : ∃ p, p = ofP s t N D dn := ⟨_, rfl⟩
    obtain ⟨QT, hQT⟩ : ∃ p, p = ofQ s t N D dn := ⟨_, rfl⟩
    rw [← hPT, ← hQT] at hOf2 hmayT
    rw [← hPT] at hlo1
    rw [← hQT] at hlo2
    have hSh : Hid (∀ W, Below w3.heap.size w3 W → Calls Tryd.prog 28 #[.agg #[.slice S1 P.length P.length, .slice S2 Q.length Q.length], .int .i64 1] W (RetRowE PT QT 0 W)) := Lib.hid (fun W hb => by
      refine iShift_any _ _ P Q 1 W (hI.out W hb) (by omega) 0 ?_ _ _ ?_ ?_
      · unfold atE; rw [hmay]; rfl
      · rw [if_pos rfl]; exact hlo1.symm
      · rw [if_pos rfl]; exact hlo2.symm)
    have hTa : Hid (∀ W, Calls Tryd.prog 27 #[.agg #[.bool false, .string a2, .string d2], .int .i64 (dn : Int)] W (RetVal (.tuple #[.agg #[.bool false, .string (natS N), .string (natS D)], .int .i64 0]) W)) := Lib.hid (fun W => by
      have e := turn1_any false a2 d2 (dn : Int) W z2 y2
      rw [ht1] at e
      exact e)
    have hU := Lib.hid (Below.refl w3.heap.size w3)
    replace hR := Lib.hid hR
    replace hmayT := Lib.hid hmayT
    replace ea1 := Lib.hid ea1
    replace ed1 := Lib.hid ed1
    replace hgc := Lib.hid hgc
    replace hxy := Lib.hid hxy
    replace hy9 := Lib.hid hy9
    clear hE hP hQ hPe hQe hrb ht1 ma1 md1 ma2 md2 hs ht hx hy hgs hst ht9 ho1 ho2 hN hmay q1 q2 q3 q4 hs9 hlo1 hlo2 hOf hND f1 f2 f3 hoN hT1 hr1 hr2 hPT hQT
    have s0 : w3.cell? ⟨gs, 0, none⟩ = some (.slice S1 P.length P.length) := (ks.out.at_ 0 rfl).cell 0
    have s1 : w3.cell? ⟨gs, 1, none⟩ = some (.slice S2 Q.length Q.length) := (ks.out.at_ 0 rfl).cell 1
    have bb0 : w3.cell? ⟨w.heap.size + 1, 0, none⟩ = some (.bool false) := (K.out.at_ 1 rfl).cell 0
    have bb1 : w3.cell? ⟨w.heap.size + 1, 1, none⟩ = some (.string a2) := (K.out.at_ 1 rfl).cell 1
    have bb2 : w3.cell? ⟨w.heap.size + 1, 2, none⟩ = some (.string d2) := (K.out.at_ 1 rfl).cell 2
    have dd0 : w3.cell? ⟨w.heap.size + 1 + 1, 0, none⟩ = some (.int .i64 (dn : Int)) := kd.out.cell 0
    go_wp2_with fail
    refine (hTa.out _).mono ?_
    rintro en w4 ⟨rfl, hb⟩
    have hBn := (hB.out.trans (hb.mono hB.out.size))
    have hUn := (hU.out.trans (hb.mono hU.out.size))
    replace hB := Lib.hid (hBn.alloc hBn.size (.cells #[.bool false, .string (natS N), .string (natS D)] 25))
    replace hU := Lib.hid (hUn.alloc hUn.size (.cells #[.bool false, .string (natS N), .string (natS D)] 25))
    clear hBn hUn
    replace K := Lib.hid ((K.out.below hb).alloc (.cells #[.bool false, .string (natS N), .string (natS D)] 25))
    replace ks := Lib.hid ((ks.out.below hb).alloc (.cells #[.bool false, .string (natS N), .string (natS D)] 25))
    replace kd := Lib.hid ((Blk.below kd.out hb).alloc (.cells #[.bool false, .string (natS N), .string (natS D)] 25))
    replace kr := Lib.hid ((Blk.below kr.out hb).alloc (.cells #[.bool false, .string (natS N), .string (natS D)] 25))
    replace K := Lib.hid (K.out.snoc (Blk.new w4 25 #[.bool false, .string (natS N), .string (natS D)]))
    clear hb s0 s1 bb0 bb1 bb2 dd0 hTa
    go_upto_region 7 with fail
    generalize hW : w4.alloc (.cells #[.bool false, .string (natS N), .string (natS D)] 25) = w5 at hB hU K ks kd kr ⊢
    generalize hg : w4.heap.size = gb at K ⊢
    clear hW hg w4
    have aa0 : w5.cell? ⟨w.heap.size, 0, none⟩ = some (.bool false) := (K.out.at_ 0 rfl).cell 0
    have aa1 : w5.cell? ⟨w.heap.size, 1, none⟩ = some (.string a1) := (K.out.at_ 0 rfl).cell 1
    have aa2 : w5.cell? ⟨w.heap.size, 2, none⟩ = some (.string d1) := (K.out.at_ 0 rfl).cell 2
    have nn0 : w5.cell? ⟨gb, 0, none⟩ = some (.bool false) := (K.out.at_ 2 rfl).cell 0
    have nn1 : w5.cell? ⟨gb, 1, none⟩ = some (.string (natS N)) := (K.out.at_ 2 rfl).cell 1
    have nn2 : w5.cell? ⟨gb, 2, none⟩ = some (.string (natS D)) := (K.out.at_ 2 rfl).cell 2
    have dd0 : w5.cell? ⟨w.heap.size + 1 + 1, 0, none⟩ = some (.int .i64 (dn : Int)) := kd.out.cell 0
    go_wp2_with fail
    refine (hOf2.out _).mono ?_
    rintro en w6 ⟨v1, v2, rfl, ⟨g1, T1, rfl⟩, ⟨g2, T2, rfl⟩, hb⟩
    have JT := Lib.hid ((Itn.of_pc ⟨g1, _, rfl⟩ ⟨g2, _, rfl⟩ hmayT.out).alloc (.cells #[.slice T1 PT.length PT.length, .slice T2 QT.length QT.length] 28))
    have hBn := (hB.out.trans (hb.mono hB.out.size))
    have hUn := (hU.out.trans (hb.mono hU.out.size))
    replace hB := Lib.hid (hBn.alloc hBn.size (.cells #[.slice T1 PT.length PT.length, .slice T2 QT.length QT.length] 28))
    replace hU := Lib.hid (hUn.alloc hUn.size (.cells #[.slice T1 PT.length PT.length, .slice T2 QT.length QT.length] 28))
    clear hBn hUn
    replace K := Lib.hid ((K.out.below hb).alloc (.cells #[.slice T1 PT.length PT.length, .slice T2 QT.length QT.length] 28))
    replace ks := Lib.hid ((ks.out.below hb).alloc (.cells #[.slice T1 PT.length PT.length, .slice T2 QT.length QT.length] 28))
    replace kd := Lib.hid ((Blk.below kd.out hb).alloc (.cells #[.slice T1 PT.length PT.length, .slice T2 QT.length QT.length] 28))
    replace kr := Lib.hid ((Blk.below kr.out hb).alloc (.cells #[.slice T1 PT.length PT.length, .slice T2 QT.length QT.length] 28))
    replace ks := Lib.hid (ks.out.snoc (Blk.new w6 28 #[.slice T1 PT.length PT.length, .slice T2 QT.length QT.length]))
    clear hb aa0 aa1 aa2 nn0 nn1 nn2 dd0 hOf2 g1 g2
    go_upto_region 8 with fail
    generalize hW : w6.alloc (.cells #[.slice T1 PT.length PT.length, .slice T2 QT.length QT.length] 28) = w7 at hB hU K ks kd kr JT ⊢
    generalize hg : w6.heap.size = gt at ks ⊢
    clear hW hg w6
    have ss0 : w7.cell? ⟨gs, 0, none⟩ = some (.slice S1 P.length P.length) := (ks.out.at_ 0 rfl).cell 0
    have ss1 : w7.cell? ⟨gs, 1, none⟩ = some (.slice S2 Q.length Q.length) := (ks.out.at_ 0 rfl).cell 1
    go_wp2_with fail
    refine (hSh.out _ hU.out).mono ?_
    rintro en w8 ⟨v1, v2, rfl, ⟨g1, U1, rfl⟩, ⟨g2, U2, rfl⟩, hb⟩
    have JU := Lib.hid ((Itn.of_pc ⟨g1, _, rfl⟩ ⟨g2, _, rfl⟩ hmayT.out).alloc (.cells #[.slice U1 PT.length PT.length, .slice U2 QT.length QT.length] 28))
    have hBn := (hB.out.trans (hb.mono hB.out.size))
    have hUn := (hU.out.trans (hb.mono hU.out.size))
    replace hB := Lib.hid (hBn.alloc hBn.size (.cells #[.slice U1 PT.length PT.length, .slice U2 QT.length QT.length] 28))
    replace hU := Lib.hid (hUn.alloc hUn.size (.cells #[.slice U1 PT.length PT.length, .slice U2 QT.length QT.length] 28))
    clear hBn hUn
    replace K := Lib.hid ((K.out.below hb).alloc (.cells #[.slice U1 PT.length PT.length, .slice U2 QT.length QT.length] 28))
    replace ks := Lib.hid ((ks.out.below hb).alloc (.cells #[.slice U1 PT.length PT.length, .slice U2 QT.length QT.length] 28))
    replace kd := Lib.hid ((Blk.below kd.out hb).alloc (.cells #[.slice U1 PT.length PT.length, .slice U2 QT.length QT.length] 28))
    replace kr := Lib.hid ((Blk.below kr.out hb).alloc (.cells #[.slice U1 PT.length PT.length, .slice U2 QT.length QT.length] 28))
    replace JT := Lib.hid ((JT.out.below hb).alloc (.cells #[.slice U1 PT.length PT.length, .slice U2 QT.length QT.length] 28))
    replace ks := Lib.hid (ks.out.snoc (Blk.new w8 28 #[.slice U1 PT.length PT.length, .slice U2 QT.length QT.length]))
    clear hb ss0 ss1 hSh g1 g2
    go_upto_region 9 with fail
    generalize hW : w8.alloc (.cells #[.slice U1 PT.length PT.length, .slice U2 QT.length QT.length] 28) = w9 at hB hU K ks kd kr JT JU ⊢
    generalize hg : w8.heap.size = gu at ks ⊢
    clear hW hg w8
    have tt0 : w9.cell? ⟨gt, 0, none⟩ = some (.slice T1 PT.length PT.length) := (ks.out.at_ 1 rfl).cell 0
    have tt1 : w9.cell? ⟨gt, 1, none⟩ = some (.slice T2 QT.length QT.length) := (ks.out.at_ 1 rfl).cell 1
    have uu0 : w9.cell? ⟨gu, 0, none⟩ = some (.slice U1 PT.length PT.length) := (ks.out.at_ 2 rfl).cell 0
    have uu1 : w9.cell? ⟨gu, 1, none⟩ = some (.slice U2 QT.length QT.length) := (ks.out.at_ 2 rfl).cell 1
    go_wp2_with fail
    refine (lsame_any _ _ _ _ PT QT PT QT _ JT.out JU.out).mono ?_
    rintro en w10 ⟨rfl, hb⟩
    rw [decide_eq_true (rfl : PT = PT), decide_eq_true (rfl : QT = QT)]
    replace hB := Lib.hid (hB.out.trans (hb.mono hB.out.size))
    replace hU := Lib.hid (hU.out.trans (hb.mono hU.out.size))
    replace K := Lib.hid ((K.out.below hb))
    replace ks := Lib.hid ((ks.out.below hb))
    replace kd := Lib.hid ((Blk.below kd.out hb))
    replace kr := Lib.hid ((Blk.below kr.out hb))
    clear hb tt0 tt1 uu0 uu1 JT JU
    go_upto_region 12 with fail
    have hgn : Hid (w3.heap.size ≤ w10.heap.size ∧ w.heap.size + 1 + 1 + 1 < w10.heap.size ∧ gs < w10.heap.size) := Lib.hid ⟨hU.out.size, kr.out.lt, (ks.out.at_ 0 rfl).lt⟩
    have kn := Lib.hid (Blk.new w10 3 #[.int .i64 0])
    replace hB := Lib.hid (hB.out.alloc hB.out.size (.cells #[.int .i64 0] 3))
    replace hU := Lib.hid (hU.out.alloc hU.out.size (.cells #[.int .i64 0] 3))
    replace K := Lib.hid (K.out.alloc (.cells #[.int .i64 0] 3))
    replace ks := Lib.hid (ks.out.alloc (.cells #[.int .i64 0] 3))
    replace kd := Lib.hid (Blk.alloc kd.out (.cells #[.int .i64 0] 3))
    replace kr := Lib.hid (Blk.alloc kr.out (.cells #[.int .i64 0] 3))
    generalize hW : w10.alloc (.cells #[.int .i64 0] 3) = w11 at hB hU K ks kd kr kn ⊢
    generalize hg : w10.heap.size = gn at kn hgn ⊢
    clear hW hg w10
    have bb0 : w11.cell? ⟨w.heap.size + 1, 0, none⟩ = some (.bool false) := (K.out.at_ 1 rfl).cell 0
    have bb1 : w11.cell? ⟨w.heap.size + 1, 1, none⟩ = some (.string a2) := (K.out.at_ 1 rfl).cell 1
    have bb2 : w11.cell? ⟨w.heap.size + 1, 2, none⟩ = some (.string d2) := (K.out.at_ 1 rfl).cell 2
    have dd0 : w11.cell? ⟨w.heap.size + 1 + 1, 0, none⟩ = some (.int .i64 (dn : Int)) := kd.out.cell 0
    go_wp2_with fail
    refine (orbit_any false a2 d2 (dn : Int) _).mono ?_
    rintro en w12 ⟨gA0, gD0, rfl, -, -, hb⟩
    replace hB := Lib.hid (hB.out.trans (hb.mono hB.out.size))
    replace hU := Lib.hid (hU.out.trans (hb.mono hU.out.size))
    replace K := Lib.hid ((K.out.below hb))
    replace ks := Lib.hid ((ks.out.below hb))
    replace kd := Lib.hid ((Blk.below kd.out hb))
    replace kr := Lib.hid ((Blk.below kr.out hb))
    replace kn := Lib.hid (Blk.below kn.out hb)
    clear hb bb0 bb1 bb2 dd0
    have bb0 : w12.cell? ⟨w.heap.size + 1, 0, none⟩ = some (.bool false) := (K.out.at_ 1 rfl).cell 0
    have bb1 : w12.cell? ⟨w.heap.size + 1, 1, none⟩ = some (.string a2) := (K.out.at_ 1 rfl).cell 1
    have bb2 : w12.cell? ⟨w.heap.size + 1, 2, none⟩ = some (.string d2) := (K.out.at_ 1 rfl).cell 2
    have dd0 : w12.cell? ⟨w.heap.size + 1 + 1, 0, none⟩ = some (.int .i64 (dn : Int)) := kd.out.cell 0
    go_wp2_with fail
    have hgnw := kn.out.lt
    refine (orbitF_any false a2 d2 (dn : Int) _).mono ?_
    rintro en U ⟨gA, gD, rfl, hA, hD, hb, hgA, hgD⟩
    replace hB := Lib.hid (hB.out.trans (hb.mono hB.out.size))
    replace hU := Lib.hid (hU.out.trans (hb.mono hU.out.size))
    replace K := Lib.hid ((K.out.below hb))
    replace ks := Lib.hid ((ks.out.below hb))
    replace kd := Lib.hid ((Blk.below kd.out hb))
    replace kr := Lib.hid ((Blk.below kr.out hb))
    replace kn := Lib.hid (Blk.below kn.out hb)
    replace hA := Lib.hid hA
    replace hD := Lib.hid hD
    clear hb bb0 bb1 bb2 dd0 hnil
    obtain ⟨hg1, hg2, hg3⟩ := hgn.out
    have hgAn : gn < gA := by omega
    have hgDn : gn < gD := by omega
    have hgnU := kn.out.lt
    clear hgn hgA hgD hgnw
    go_wp2_with fail
    refine (wpIn_wide (n := 0)).1 ?_
    refine wpIn_iterB (gf := 50) (lb := #[.pointer (some ⟨gA, 0, none⟩), .pointer (some ⟨gD, 0, none⟩)]) rfl (enters_of Tryd.func50 (by kernel_rfl) rfl) (orbit_iter false a2 d2 (dn : Int) gA gD U z2 y2 hA.out hD.out) (Below.refl _ _) (fun k hk => by rcases hk with rfl | rfl <;> first | exact hA.out.lt | exact hD.out.lt) (fun _ => rfl)
      (fun _ pre W => U.grownBy W (some gn) ∧ Blk W gn 3 #[.int .i64 (pre.length : Int)] ∧ pre.length < 300) (fun _ c _ W => c = .exit 0 ∧ U.grownBy W (some gn))
      (fun m s A B h ho => ⟨gb_out h.1 ho, blk_out h.2.1 kn.out.lt ho, h.2.2⟩) (fun m c s A B h ho => ⟨h.1, gb_out h.2 ho⟩) (fun _ => ⟨gb_refl _ _, kn.out, by simp⟩) ?rd ?dn ?st
    case dn =>
      rintro m W ⟨hg, -, -⟩ hDf
      have krW := Lib.hid (Blk.grown kr.out hg (fun e => by injection e; omega))
      have hBW := Lib.hid (hB.out.grown hg hB.out.size (fun k hk => by injection hk; omega))
      have hUr : w.heap.size + 1 + 1 + 1 < U.heap.size := by omega
      generalize hD1 : U.heap.size = D1 at hDf hUr ⊢
      have hDW := (Array.getElem?_eq_some_iff.1 hDf).1
      replace hDf := Lib.hid hDf
      dsimp only
      clear hg
      go_wp2_with fail
      refine (lives_any _).mono ?_
      rintro en w13 ⟨rfl, hb⟩
      have r0 : w13.cell? ⟨w.heap.size + 1 + 1 + 1, 0, none⟩ = some (.bool false) := (Blk.below krW.out hb).cell 0
      have r1 := (Blk.below krW.out hb).frozen 0
      have hk1 := put_set (p := ⟨w.heap.size + 1 + 1 + 1, 0, none⟩) ((hb.block D1 hDW).trans hDf.out) (by simp; omega) (.bool true)
      have krZ := blk_put ((Blk.below krW.out hb).set_ 0 (.bool true)) (show w.heap.size + 1 + 1 + 1 ≠ D1 by omega) (.deferred none)
      have hBZ := below_put ((hBW.out.trans (hb.mono hBW.out.size)).setCell (p := ⟨w.heap.size + 1 + 1 + 1, 0, none⟩) (by simp; omega) (.bool true)) (show w.heap.size ≤ D1 by omega) (.deferred none)
      have q0 := krZ.cell 0
      replace hk1 := Lib.hid hk1
      replace hBZ := Lib.hid hBZ
      replace q0 := Lib.hid q0
      clear krZ hb
      go_wp2_with fail
      have q1 := q0.out
      refine leaves_one hk1.out (v := .bool true) (by simp [results, Tryd.results8, go_sem, q1]) ⟨rfl, hBZ.out⟩
    case st =>
      rintro m c pre W hp ⟨rfl, hg⟩ hDf
      have krW := Lib.hid (Blk.grown kr.out hg (fun e => by injection e; omega))
      have hBW := Lib.hid (hB.out.grown hg hB.out.size (fun k hk => by injection hk; omega))
      have hUr : w.heap.size + 1 + 1 + 1 < U.heap.size := by omega
      generalize hD1 : U.heap.size = D1 at hDf hUr ⊢
      have hDW := (Array.getElem?_eq_some_iff.1 hDf).1
      replace hDf := Lib.hid hDf
      refine wpIn_wide.2 ?_
      clear hg
      go_wp2_with fail
      refine (lives_any _).mono ?_
      rintro en w13 ⟨rfl, hb⟩
      have r0 : w13.cell? ⟨w.heap.size + 1 + 1 + 1, 0, none⟩ = some (.bool false) := (Blk.below krW.out hb).cell 0
      have r1 := (Blk.below krW.out hb).frozen 0
      have hk1 := put_set (p := ⟨w.heap.size + 1 + 1 + 1, 0, none⟩) ((hb.block D1 hDW).trans hDf.out) (by simp; omega) (.bool true)
      have krZ := blk_put ((Blk.below krW.out hb).set_ 0 (.bool true)) (show w.heap.size + 1 + 1 + 1 ≠ D1 by omega) (.deferred none)
      have hBZ := below_put ((hBW.out.trans (hb.mono hBW.out.size)).setCell (p := ⟨w.heap.size + 1 + 1 + 1, 0, none⟩) (by simp; omega) (.bool true)) (show w.heap.size ≤ D1 by omega) (.deferred none)
      have q0 := krZ.cell 0
      replace hk1 := Lib.hid hk1
      replace hBZ := Lib.hid hBZ
      replace q0 := Lib.hid q0
      clear krZ hb
      go_wp2_with fail
      have q1 := q0.out
      refine leaves_one hk1.out (v := .bool true) (by simp [results, Tryd.results8, go_sem, q1]) ⟨rfl, hBZ.out⟩
    case rd =>
      rintro m l pre p W ⟨hg, hk, hlt⟩ hsz hpre Kk hKk
      rw [hR.out] at hpre
      obtain ⟨-, hp2, -⟩ := orbL_head hpre
      obtain ⟨j, hj⟩ : ∃ j, j = pre.length := ⟨_, rfl⟩
      rw [← hj] at hk hlt hp2
      obtain ⟨N1, D1⟩ := p
      obtain ⟨⟨N2, D2⟩, hN2⟩ : ∃ m, m = orbM x y dn (j + 1) := ⟨_, rfl⟩
      obtain ⟨e1, e2, e3⟩ := orbM_facts (x := x) (d := dn) (n := j) hy0
      rw [← hp2] at e1 e2 e3
      simp only at e1 e2 e3
      have hTu := Lib.hid (hTn.out N1 D1 e1 e2 e3 N2 D2 (by rw [hN2]; exact (orbM_next hy0 hp2).symm))
      have hst := hSt.out j
      rw [← hN2] at hst
      have hsl := hSl.out j
      have hatj := hat.out j
      obtain ⟨v, hv⟩ : ∃ v, v = symF s t x y dn j := ⟨_, rfl⟩
      rw [← hv] at hst hsl hatj
      replace hst := Lib.hid hst
      replace hsl := Lib.hid hsl
      replace hatj := Lib.hid hatj
      replace hg := Lib.hid hg
      replace hk := Lib.hid hk
      replace hj := Lib.hid hj
      replace hKk := Lib.hid hKk
      clear hpre hp2 hN2 e1 e2 e3 hv
      simp only [ratV]
      gi_wp2_with fail
      refine hKk.out _ _ ((KeepB.refl _ W).alloc (fun k hk => by have h1 := hA.out.lt; have h2 := hD.out.lt; rcases hk with (h | h) | h <;> omega) _) ?_
      intro o
      have hne : ∀ {T T' : TypeId} {g : Nat} {cs : Array Value}, Blk U g T cs → T ≠ 3 → g ≠ gn := fun h hT e => by subst e; exact (blk_ne h kn.out hT) rfl
      have xb := blk_put (Blk.new W 25 #[.bool false, .string (natS N1), .string (natS D1)]) (show W.heap.size ≠ U.heap.size + 1 by omega) o
      have xn := blk_put (hk.out.alloc (.cells #[.bool false, .string (natS N1), .string (natS D1)] 25)) (show gn ≠ U.heap.size + 1 by omega) o
      have xy := blk_put ((Blk.grown (K.out.at_ 0 rfl) hg.out (fun e => by injection e; omega)).alloc (.cells #[.bool false, .string (natS N1), .string (natS D1)] 25)) (show w.heap.size ≠ U.heap.size + 1 by omega) o
      have xd := blk_put ((Blk.grown kd.out hg.out (fun e => by injection e; omega)).alloc (.cells #[.bool false, .string (natS N1), .string (natS D1)] 25)) (show w.heap.size + 1 + 1 ≠ U.heap.size + 1 by omega) o
      have xs := blk_put ((Blk.grown (ks.out.at_ 0 rfl) hg.out (fun e => by injection e; omega)).alloc (.cells #[.bool false, .string (natS N1), .string (natS D1)] 25)) (show gs ≠ U.heap.size + 1 by omega) o
      have xg : U.grownBy ((W.alloc (.cells #[.bool false, .string (natS N1), .string (natS D1)] 25)).putObj (U.heap.size + 1) o) (some gn) := gb_out (hi := U.heap.size + 2) hg.out (((OutB.refl _ _ W).alloc _).put (by omega) (by omega) o)
      have xz : ((W.alloc (.cells #[.bool false, .string (natS N1), .string (natS D1)] 25)).putObj (U.heap.size + 1) o).heap.size = W.heap.size + 1 := by simp
      obtain ⟨gx, hgx⟩ : ∃ g, g = W.heap.size := ⟨_, rfl⟩
      generalize hxx : (W.alloc (.cells #[.bool false, .string (natS N1), .string (natS D1)] 25)).putObj (U.heap.size + 1) o = X at xb xn xy xd xs xg xz ⊢
      rw [← hgx] at xb xz hsz ⊢
      clear hxx hgx hg hk hKk hne
      have xU := Lib.hid (hU.out.grown xg hU.out.size (fun k hk => by injection hk; omega))
      have b0 : X.cell? ⟨gx, 0, none⟩ = some (.bool false) := xb.cell 0
      have b1 : X.cell? ⟨gx, 1, none⟩ = some (.string (natS N1)) := xb.cell 1
      have b2 : X.cell? ⟨gx, 2, none⟩ = some (.string (natS D1)) := xb.cell 2
      have d0 : X.cell? ⟨w.heap.size + 1 + 1, 0, none⟩ = some (.int .i64 (dn : Int)) := xd.cell 0
      replace xn := Lib.hid xn
      replace xy := Lib.hid xy
      replace xd := Lib.hid xd
      replace xs := Lib.hid xs
      replace xg := Lib.hid xg
      clear xb
      gi_wp2_with fail
      refine ⟨trivial, rfl, (CallsIn.inRound _ (callsIn_wide.2 (hTu.out _))).mono ?_⟩
      rintro en w14 ⟨rfl, hb⟩
      have hXw := hb.size
      have yy := Lib.hid (Blk.new w14 25 #[.bool false, .string (natS N2), .string (natS D2)])
      have yn := Lib.hid ((Blk.below xn.out hb).alloc (.cells #[.bool false, .string (natS N2), .string (natS D2)] 25))
      have yb := Lib.hid ((Blk.below xy.out hb).alloc (.cells #[.bool false, .string (natS N2), .string (natS D2)] 25))
      have yd := Lib.hid ((Blk.below xd.out hb).alloc (.cells #[.bool false, .string (natS N2), .string (natS D2)] 25))
      have ys := Lib.hid ((Blk.below xs.out hb).alloc (.cells #[.bool false, .string (natS N2), .string (natS D2)] 25))
      have yg := Lib.hid (gb_trans xg.out (grown_below ((hb.alloc hb.size (.cells #[.bool false, .string (natS N2), .string (natS D2)] 25)))))
      have hXY := Lib.hid (hb.alloc hb.size (.cells #[.bool false, .string (natS N2), .string (natS D2)] 25))
      have hUn := xU.out.trans (hb.mono xU.out.size)
      have yU := Lib.hid (hUn.alloc hUn.size (.cells #[.bool false, .string (natS N2), .string (natS D2)] 25))
      have hgyw := Lib.hid (show gn < w14.heap.size by omega)
      have s0 : (w14.alloc (.cells #[.bool false, .string (natS N2), .string (natS D2)] 25)).cell? ⟨gs, 0, none⟩ = some (.slice S1 P.length P.length) := ys.out.cell 0
      have s1 : (w14.alloc (.cells #[.bool false, .string (natS N2), .string (natS D2)] 25)).cell? ⟨gs, 1, none⟩ = some (.slice S2 Q.length Q.length) := ys.out.cell 1
      have n0 : (w14.alloc (.cells #[.bool false, .string (natS N2), .string (natS D2)] 25)).cell? ⟨gn, 0, none⟩ = some (.int .i64 (j : Int)) := yn.out.cell 0
      clear hb hUn b0 b1 b2 d0 xn xy xd xs xg xU
      gi_wp2_with fail
      refine ⟨trivial, rfl, (CallsIn.inRound _ (callsIn_wide.2 (iAt_any _ _ P Q (j : Int) _ (hI.out _ yU.out) (by omega)))).mono ?_⟩
      rintro en w15 ⟨rfl, hb⟩
      rw [hatj.out]
      obtain ⟨gy, hgy⟩ : ∃ g, g = w14.heap.size := ⟨_, rfl⟩
      rw [← hgy] at yy hgyw ⊢
      have hYY := Lib.hid (hXY.out.trans (hb.mono hXY.out.size))
      have zg := gb_trans yg.out (grown_below hb)
      have zn := Blk.below yn.out hb
      have p0 : w15.cell? ⟨gy, 0, none⟩ = some (.bool false) := (Blk.below yy.out hb).cell 0
      have p1 : w15.cell? ⟨gy, 1, none⟩ = some (.string (natS N2)) := (Blk.below yy.out hb).cell 1
      have p2 : w15.cell? ⟨gy, 2, none⟩ = some (.string (natS D2)) := (Blk.below yy.out hb).cell 2
      have q0 : w15.cell? ⟨w.heap.size, 0, none⟩ = some (.bool false) := (Blk.below yb.out hb).cell 0
      have q1 : w15.cell? ⟨w.heap.size, 1, none⟩ = some (.string a1) := (Blk.below yb.out hb).cell 1
      have q2 : w15.cell? ⟨w.heap.size, 2, none⟩ = some (.string d1) := (Blk.below yb.out hb).cell 2
      have d0 : w15.cell? ⟨w.heap.size + 1 + 1, 0, none⟩ = some (.int .i64 (dn : Int)) := (Blk.below yd.out hb).cell 0
      have n0 : w15.cell? ⟨gn, 0, none⟩ = some (.int .i64 (j : Int)) := zn.cell 0
      have n1 := zn.frozen 0
      have hKp : KeepB (fun k => (k = gA ∨ k = gD) ∨ U.heap.size ≤ k ∧ k < U.heap.size + 2 + m) X (w15.setCell ⟨gn, 0, none⟩ (.int .i64 ((j : Int) + 1))) :=
        ((KeepB.refl _ X).below hYY.out (fun k hk => by have h1 := hA.out.lt; have h2 := hD.out.lt; rcases hk with (h | h) | h <;> omega)).setCell (p := ⟨gn, 0, none⟩) (fun hk => by simp only at hk; omega) _
      have zg2 := gb_set zg 0 (.int .i64 ((j : Int) + 1))
      have hlen : (pre ++ [(N1, D1)]).length = j + 1 := by rw [List.length_append, ← hj.out]; rfl
      have zn2 : Blk (w15.setCell ⟨gn, 0, none⟩ (.int .i64 ((j : Int) + 1))) gn 3 #[.int .i64 (((pre ++ [(N1, D1)]).length : Nat) : Int)] := by
        rw [hlen]
        push_cast
        exact zn.set_ 0 _
      replace hKp := Lib.hid hKp
      replace zg2 := Lib.hid zg2
      replace zn2 := Lib.hid zn2
      replace hlen := Lib.hid hlen
      clear zg zn yy yn yb yd ys yg hXY yU hgyw s0 s1 hgy hb hatj
      have hw1 : IntKind.i64.wrap ((j : Int) + 1) = (j : Int) + 1 := by rw [IntKind.wrap_i64]; omega
      by_cases hv : v = 255
      · obtain ⟨e1, e2⟩ := Prod.mk.inj (hst.out.1 hv)
        have x1 : ((natS N2).toList == a1.toList) = true := by rw [ea1.out, e1]; exact beq_self_eq_true _
        have x2 : ((natS D2).toList == d1.toList) = true := by rw [ed1.out, e2]; exact beq_self_eq_true _
        have x3 : ((v : Int) == 255) = true := by rw [beq_iff_eq]; omega
        have x4 : ((v : Int) != 255) = false := by rw [hv]; rfl
        clear hv e1 e2 hst
        by_cases hjl : j + 1 = 300
        · have hb3 : ((j : Int) + 1 == 300) = true := by rw [beq_iff_eq]; omega
          clear hjl hlt hsl
          gi_wp2_with fail
          exact ⟨hKp.out, rfl, zg2.out⟩
        · have hb3 : ((j : Int) + 1 == 300) = false := by rw [beq_eq_false_iff_ne]; omega
          have hlM : Hid ((pre ++ [(N1, D1)]).length < 300) := Lib.hid (by rw [hlen.out]; omega)
          clear hjl hlt hsl
          gi_wp2_with fail
          exact ⟨hKp.out, zg2.out, zn2.out, hlM.out⟩
      · have hvd : v < dn := hsl.out.resolve_left hv
        have x3 : ((v : Int) == 255) = false := by rw [beq_eq_false_iff_ne]; omega
        have x4 : ((v : Int) != 255) = true := by rw [bne_iff_ne]; omega
        have x5 : ¬ (dn : Int) ≤ (v : Int) := by omega
        have x6 : IntKind.i64.wrap (v : Int) = (v : Int) := by rw [IntKind.wrap_i64]; omega
        by_cases e1 : N2 = s
        · have e2 : D2 ≠ t := fun e => hv (hst.out.2 (by rw [e1, e]))
          have x1 : ((natS N2).toList == a1.toList) = true := by rw [ea1.out, e1]; exact beq_self_eq_true _
          have x2 : ((natS D2).toList == d1.toList) = false := neqS (fun e => e2 (natS_inj (e.trans ed1.out)))
          clear hv e1 e2 hst hvd
          by_cases hjl : j + 1 = 300
          · have hb3 : ((j : Int) + 1 == 300) = true := by rw [beq_iff_eq]; omega
            clear hjl hlt hsl
            gi_wp2_with fail
            exact ⟨hKp.out, rfl, zg2.out⟩
          · have hb3 : ((j : Int) + 1 == 300) = false := by rw [beq_eq_false_iff_ne]; omega
            have hlM : Hid ((pre ++ [(N1, D1)]).length < 300) := Lib.hid (by rw [hlen.out]; omega)
            clear hjl hlt hsl
            gi_wp2_with fail
            exact ⟨hKp.out, zg2.out, zn2.out, hlM.out⟩
        · have x1 : ((natS N2).toList == a1.toList) = false := neqS (fun e => e1 (natS_inj (e.trans ea1.out)))
          clear hv e1 hst hvd
          by_cases hjl : j + 1 = 300
          · have hb3 : ((j : Int) + 1 == 300) = true := by rw [beq_iff_eq]; omega
            clear hjl hlt hsl
            gi_wp2_with fail
            exact ⟨hKp.out, rfl, zg2.out⟩
          · have hb3 : ((j : Int) + 1 == 300) = false := by rw [beq_eq_false_iff_ne]; omega
            have hlM : Hid ((pre ++ [(N1, D1)]).length < 300) := Lib.hid (by rw [hlen.out]; omega)
            clear hjl hlt hsl
            gi_wp2_with fail
            exact ⟨hKp.out, zg2.out, zn2.out, hlM.out⟩
end Go.Proofs.YtbddlbhanpjdnaaDoor
