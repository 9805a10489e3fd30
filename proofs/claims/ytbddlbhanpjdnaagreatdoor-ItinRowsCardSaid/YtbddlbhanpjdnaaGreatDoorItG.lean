/- filigreelaw22.ItinRows: the walk. -/
import Derived.Test.YtbddlbhanpjdnaaGreatDoorLent
import Derived.Test.YtbddlbhanpjdnaaGreatDoorRShift
import Derived.Test.YtbddlbhanpjdnaaGreatDoorItZ
import Derived.Test.YtbddlbhanpjdnaaGreatDoorKT
namespace Go.Proofs.YtbddlbhanpjdnaaGreatDoor
open Go.RowKit Go.Sort

set_option maxRecDepth 100000 in
set_option maxHeartbeats 1000000 in
/-- filigreeref22.At, however far. -/
theorem ritatB_any {T1 T2 : TypeId} (A1 A2 : Option Addr) (n1 c1 n2 c2 n : Nat) (P Q : List Nat) (w : World) (h1 : Rd .u8 T1 w (.slice A1 n1 c1) P) (h2 : Rd .u8 T2 w (.slice A2 n2 c2) Q)
    (hQ : 0 < Q.length) (hP9 : P.length ≤ 1099511627776) (hQ9 : Q.length ≤ 1099511627776) (hn : n ≤ 9223372036854775807) :
    Calls Tryz.prog 25 #[.agg #[.slice A1 n1 c1, .slice A2 n2 c2], .int .i64 (n : Int)] w (RetVal (.int .u8 ((rowAt P Q n : Nat) : Int)) w) := by
  by_cases h0 : n < P.length
  · exact ritat_any A1 A2 n1 c1 n2 c2 n P Q w h1 h2 hQ hP9 hQ9 (by omega)
  obtain ⟨x, hx⟩ : ∃ x, x = rowAt P Q n := ⟨_, rfl⟩
  rw [← hx]
  obtain ⟨rfl, hc1, hc1m, hcell1⟩ := rd_cells h1
  obtain ⟨rfl, hc2, hc2m, hcell2⟩ := rd_cells h2
  obtain ⟨a, ha⟩ : ∃ a, a = P.length := ⟨_, rfl⟩
  obtain ⟨b, hb⟩ : ∃ b, b = Q.length := ⟨_, rfl⟩
  have hBW : Below w.heap.size w (w.alloc (.cells #[.slice A1 a c1, .slice A2 b c2] 30)) := (Below.refl _ w).alloc (Nat.le_refl _) _
  replace hBW := Lib.hid hBW
  obtain ⟨g, off, rfl, hg, hcell⟩ := hcell2 (fun e => by rw [e] at hQ; exact absurd hQ (by simp))
  obtain ⟨j, hj⟩ : ∃ j, j = (n - P.length) % Q.length := ⟨_, rfl⟩
  obtain ⟨k, hk⟩ : ∃ k, k = n - P.length := ⟨_, rfl⟩
  have hjb : j < Q.length := by rw [hj]; exact Nat.mod_lt _ hQ
  have hcx : (w.alloc (.cells #[.slice A1 a c1, .slice (some ⟨g, off, none⟩) b c2] 30)).cell? ⟨g, off + j, none⟩ = some (.int .u8 (x : Int)) := by
    have e := hcell j x (by rw [hx, hj]; exact rowAt_per (by omega) hQ)
    exact (Lib.cell?_alloc_some _ e)
  rw [← hk] at hj
  have hji : (k : Int).tmod (b : Int) = (j : Int) := by rw [hj, hb]; exact tmod_nat _ _
  rw [← ha] at h0 hc1 hP9 hk ⊢
  rw [← hb] at hc2 hQ hQ9 hjb ⊢
  have h0I : ¬ (n : Int) < (a : Int) := by omega
  have hki : (n : Int) - (a : Int) = (k : Int) := by omega
  have hkw : IntKind.i64.wrap (k : Int) = (k : Int) := by rw [IntKind.wrap_i64]; omega
  have hkw2 : IntKind.i64.wrap ((n : Int) - (a : Int)) = (k : Int) := by rw [hki, hkw]
  have hkw3 : wrap64 ((n : Int) - (a : Int)) = (k : Int) := by rw [hki]; unfold wrap64; omega
  have hb0 : ¬ (b : Int) = 0 := by omega
  have hjI : (j : Int) < (b : Int) := by omega
  replace hx := Lib.hid hx
  replace hj := Lib.hid hj
  clear hcell1 hcell2 hcell h1 h2 ha hb hk hn
  go_enter Tryz.func25, Tryz.ntmps25
  go_wp2_with fail
  go_quiet (fail)
  go_wp2_with fail
  go_ret
  exact ⟨rfl, below_drewN hBW.out _⟩

theorem i64_le {n : Int} (h : (Lit.int .i64 n).wf = true) : n ≤ 9223372036854775807 := by
  have mx : IntKind.i64.max = 9223372036854775807 := by decide
  simp only [Lit.wf, Bool.and_eq_true, decide_eq_true_eq] at h
  omega
theorem sh_may {P Q : List Nat} (h : mayI P Q = true) (n : Nat) : mayI (shP P Q n) (shQ P Q n) = true := by
  obtain ⟨q1, q2, q3, q4⟩ := mayI_spec h
  refine low_may ?_
  have hl := shB_len P (Q := Q) n
  have hne : shB P Q n ≠ [] := fun e => by rw [e] at hl; simp at hl; omega
  have hB : ∀ x, x ∈ shB P Q n → symB x = true := fun x hx => by
    unfold shB at hx
    split at hx
    · exact q4 x hx
    · rcases List.mem_append.1 hx with hx | hx
      · exact q4 x (List.mem_of_mem_drop hx)
      · exact q4 x (List.mem_of_mem_take hx)
  have hA : ∀ x, x ∈ shA P Q n → symB x = true := fun x hx => q3 x (List.mem_of_mem_drop hx)
  have hLA : (shA P Q n).length ≤ P.length := by unfold shA; rw [List.length_drop]; omega
  unfold mayI
  simp only [Bool.and_eq_true, decide_eq_true_eq, List.all_eq_true]
  exact ⟨⟨⟨hne, by omega⟩, hA⟩, hB⟩
theorem iChk_any (a b : Value) (P Q : List Nat) (w : World) (h : Itn w a b P Q) : Calls Tryz.prog 21 #[.agg #[a, b]] w (RetVal (.int .i64 (chkE P Q)) w) := by
  obtain ⟨⟨A1, n1, c1, T1, rfl, h1⟩, ⟨A2, n2, c2, T2, rfl, h2⟩, s1, s2, l1, l2⟩ := h
  exact iCheck_any (T1 := T1) (T2 := T2) A1 A2 n1 c1 n2 c2 P Q w h1 h2 s1 s2 l1 l2
theorem mayE_low {P Q : List Nat} : MayE (if mayI P Q then lowP P Q else []) (if mayI P Q then lowQ P Q else []) := by
  cases h : mayI P Q
  · exact .inr ⟨rfl, rfl⟩
  · exact .inl (low_may h)


set_option maxRecDepth 100000 in
set_option maxHeartbeats 8000000 in
/-- filigreelaw22.ItinRows -/
theorem itinRows_any (a b : Value) (P Q : List Nat) (n : Int) (w : World) (h : Itn w a b P Q) (hwf : (Lit.int .i64 n).wf = true) :
    Calls Tryz.prog 4 #[.agg #[a, b], .int .i64 n] w (RetVal (.bool true) w) := by
  have hn9 := i64_le hwf
  obtain ⟨p1, hp1⟩ : ∃ p, p = P.length := ⟨_, rfl⟩
  obtain ⟨p2, hp2⟩ : ∃ p, p = Q.length := ⟨_, rfl⟩
  obtain ⟨m, hm⟩ : ∃ m, m = mayI P Q := ⟨_, rfl⟩
  obtain ⟨PA, hPA⟩ : ∃ l, l = if mayI P Q then lowP P Q else [] := ⟨_, rfl⟩
  obtain ⟨QA, hQA⟩ : ∃ l, l = if mayI P Q then lowQ P Q else [] := ⟨_, rfl⟩
  obtain ⟨E2, hE2⟩ : ∃ e, e = atE P Q n := ⟨_, rfl⟩
  obtain ⟨PB, hPB⟩ : ∃ l, l = if E2 = 0 then shP P Q n.toNat else [] := ⟨_, rfl⟩
  obtain ⟨QB, hQB⟩ : ∃ l, l = if E2 = 0 then shQ P Q n.toNat else [] := ⟨_, rfl⟩
  obtain ⟨c, hc⟩ : ∃ c, c = chkE P Q := ⟨_, rfl⟩
  obtain ⟨x, hx⟩ : ∃ x : Nat, x = if E2 = 0 then rowAt P Q n.toNat else 0 := ⟨_, rfl⟩
  have mA : MayE PA QA := by rw [hPA, hQA]; exact mayE_low
  have mB : MayE PB QB := by
    by_cases h0 : E2 = 0
    · have hmay : mayI P Q = true := by
        rcases atE_cases (P := P) (Q := Q) (n := n) with ⟨e, -⟩ | ⟨e, -⟩ | ⟨-, e, -⟩
        · rw [← hE2, h0] at e; cases e
        · rw [← hE2, h0] at e; cases e
        · exact e
      rw [hPB, hQB, if_pos h0, if_pos h0]
      exact .inl (sh_may hmay n.toNat)
    · rw [hPB, hQB, if_neg h0, if_neg h0]; exact .inr ⟨rfl, rfl⟩
  have hcb : (c == 0) = m := by
    rw [hc, hm]; unfold chkE
    cases mayI P Q <;> rfl
  have hcm : (m != m) = false := bne_self_eq_false _
  have hLt := Lib.hid (fun W hI => lent_any a b P Q W hI)
  have hAt : Hid (∀ W v1 v2, Itn W v1 v2 P Q → Calls Tryz.prog 19 #[.agg #[v1, v2], .int .i64 n] W (RetVal (.tuple #[.int .u8 (x : Int), .int .i64 E2]) W)) := Lib.hid (fun W v1 v2 hI => by
    have := iAt_any v1 v2 P Q n W hI hn9
    have e : atV P Q n = .tuple #[.int .u8 (x : Int), .int .i64 E2] := by
      rw [atV, ← hE2, hx]
      by_cases h0 : E2 = 0
      · rw [if_pos h0, if_pos h0]
      · rw [if_neg h0, if_neg h0]; rfl
    rw [e] at this
    exact this)
  have hsz : Hid (P.length ≤ 140737488351232 ∧ Q.length ≤ 140737488351232 ∧ (∀ v, v ∈ P → v < 256) ∧ (∀ v, v ∈ Q → v < 256)) := Lib.hid (by
    obtain ⟨-, -, s1, s2, l1, l2⟩ := h
    exact ⟨l1, l2, s1, s2⟩)
  obtain ⟨A1, n1, d1, hab1⟩ : ∃ A n c, a = .slice A n c := by
    obtain ⟨⟨A, n, c, T, e, -⟩, -⟩ := h
    exact ⟨A, n, c, e⟩
  obtain ⟨A2, n2, d2, hab2⟩ : ∃ A n c, b = .slice A n c := by
    obtain ⟨-, ⟨A, n, c, T, e, -⟩, -⟩ := h
    exact ⟨A, n, c, e⟩
  subst hab1 hab2
  have hBW : Below w.heap.size w (w.alloc (.cells #[.slice A1 n1 d1, .slice A2 n2 d2] 30)) := (Below.refl _ w).alloc (Nat.le_refl _) _
  have ka := Blk.new w 30 #[.slice A1 n1 d1, .slice A2 n2 d2]
  have K := Lib.hid (KeepT.one ka)
  have hB := Lib.hid hBW
  have JS := Lib.hid (h.alloc (.cells #[.slice A1 n1 d1, .slice A2 n2 d2] 30))
  have hI0 := Lib.hid h
  replace hp1 := Lib.hid hp1
  replace hp2 := Lib.hid hp2
  replace hm := Lib.hid hm
  replace hPA := Lib.hid hPA
  replace hQA := Lib.hid hQA
  replace hE2 := Lib.hid hE2
  replace hPB := Lib.hid hPB
  replace hQB := Lib.hid hQB
  replace hc := Lib.hid hc
  replace hx := Lib.hid hx
  replace mA := Lib.hid mA
  replace mB := Lib.hid mB
  clear hBW ka h hwf
  go_enter Tryz.func4, Tryz.ntmps4
  go_wp2_with fail
  refine (hLt.out _ JS.out).mono ?_
  rintro en w1 ⟨g1, c1, g2, c2, rfl, hLe, hb⟩
  rw [← hp1.out, ← hp2.out]
  have JL := Lib.hid (hLe.alloc (.cells #[.slice (some ⟨g1, 0, none⟩) p1 c1, .slice (some ⟨g2, 0, none⟩) p2 c2] 30))
  have hz0 := hb.size
  have hBn := hB.out.trans (hb.mono hB.out.size)
  replace hB := Lib.hid (hBn.alloc hBn.size (.cells #[.slice (some ⟨g1, 0, none⟩) p1 c1, .slice (some ⟨g2, 0, none⟩) p2 c2] 30))
  clear hBn
  replace K := Lib.hid ((K.out.below hb).alloc (.cells #[.slice (some ⟨g1, 0, none⟩) p1 c1, .slice (some ⟨g2, 0, none⟩) p2 c2] 30))
  replace JS := Lib.hid ((JS.out.below hb).alloc (.cells #[.slice (some ⟨g1, 0, none⟩) p1 c1, .slice (some ⟨g2, 0, none⟩) p2 c2] 30))
  replace K := Lib.hid (K.out.snoc (Blk.new w1 30 #[.slice (some ⟨g1, 0, none⟩) p1 c1, .slice (some ⟨g2, 0, none⟩) p2 c2]))
  have hg12 : Hid (w.heap.size ≤ g1 ∧ w.heap.size ≤ g2 ∧ g1 < (w1.alloc (.cells #[.slice (some ⟨g1, 0, none⟩) p1 c1, .slice (some ⟨g2, 0, none⟩) p2 c2] 30)).heap.size ∧ g2 < (w1.alloc (.cells #[.slice (some ⟨g1, 0, none⟩) p1 c1, .slice (some ⟨g2, 0, none⟩) p2 c2] 30)).heap.size) := Lib.hid (by
    obtain ⟨a1, a2⟩ := hLe.1.lt g1 rfl
    obtain ⟨a3, a4⟩ := hLe.2.lt g2 rfl
    simp at a1 a3 ⊢; omega)
  clear  hb hLe hz0 hLt
  go_upto_region 2 with fail
  generalize hW : w1.alloc (.cells #[.slice (some ⟨g1, 0, none⟩) p1 c1, .slice (some ⟨g2, 0, none⟩) p2 c2] 30) = w2 at hB K JS JL hg12 ⊢
  generalize hg : w1.heap.size = gm at K hg12 ⊢
  clear hW hg w1
  have hU := Lib.hid (Below.refl w2.heap.size w2)
  have JM : Hid (Itn w2 (.slice (some ⟨g1, 0, none⟩) p1 c1) (.slice (some ⟨g2, 0, none⟩) p2 c2) P Q) := Lib.hid (by
    have := JL.out.itn hsz.out.2.2.1 hsz.out.2.2.2 hsz.out.1 hsz.out.2.1
    rw [← hp1.out, ← hp2.out] at this
    exact this)
  have mm0 : w2.cell? ⟨gm, 0, none⟩ = some (.slice (some ⟨g1, 0, none⟩) p1 c1) := (K.out.at_ 1 rfl).cell 0
  have mm1 : w2.cell? ⟨gm, 1, none⟩ = some (.slice (some ⟨g2, 0, none⟩) p2 c2) := (K.out.at_ 1 rfl).cell 1
  go_wp2_with fail
  refine (iLowest_any _ _ P Q _ JM.out PA QA hPA.out hQA.out).mono ?_
  rintro en w3 ⟨v1, v2, rfl, ⟨q1, X1, rfl⟩, ⟨q2, X2, rfl⟩, hb⟩
  rw [← hc.out]
  have PX1 := Lib.hid (q1.alloc (.cells #[.slice X1 PA.length PA.length, .slice X2 QA.length QA.length] 30))
  have PX2 := Lib.hid (q2.alloc (.cells #[.slice X1 PA.length PA.length, .slice X2 QA.length QA.length] 30))
  have hBn := hB.out.trans (hb.mono hB.out.size)
  replace hB := Lib.hid (hBn.alloc hBn.size (.cells #[.slice X1 PA.length PA.length, .slice X2 QA.length QA.length] 30))
  clear hBn
  have hUn := hU.out.trans (hb.mono hU.out.size)
  replace hU := Lib.hid (hUn.alloc hUn.size (.cells #[.slice X1 PA.length PA.length, .slice X2 QA.length QA.length] 30))
  clear hUn
  replace K := Lib.hid ((K.out.below hb).alloc (.cells #[.slice X1 PA.length PA.length, .slice X2 QA.length QA.length] 30))
  replace JS := Lib.hid ((JS.out.below hb).alloc (.cells #[.slice X1 PA.length PA.length, .slice X2 QA.length QA.length] 30))
  replace JL := Lib.hid ((JL.out.below hb).alloc (.cells #[.slice X1 PA.length PA.length, .slice X2 QA.length QA.length] 30))
  replace JM := Lib.hid ((JM.out.below hb).alloc (.cells #[.slice X1 PA.length PA.length, .slice X2 QA.length QA.length] 30))
  replace K := Lib.hid (K.out.snoc (Blk.new w3 30 #[.slice X1 PA.length PA.length, .slice X2 QA.length QA.length]))
  clear mm0 mm1 hb q1 q2
  go_upto_region 3 with fail
  generalize hW : w3.alloc (.cells #[.slice X1 PA.length PA.length, .slice X2 QA.length QA.length] 30) = w4 at hB hU K JS JL JM PX1 PX2  ⊢
  generalize hg : w3.heap.size = ga at K  ⊢
  clear hW hg w3
  have mm0 : w4.cell? ⟨gm, 0, none⟩ = some (.slice (some ⟨g1, 0, none⟩) p1 c1) := (K.out.at_ 1 rfl).cell 0
  have mm1 : w4.cell? ⟨gm, 1, none⟩ = some (.slice (some ⟨g2, 0, none⟩) p2 c2) := (K.out.at_ 1 rfl).cell 1
  go_wp2_with fail
  refine (iShift_any _ _ P Q n _ JM.out hn9 E2 hE2.out PB QB hPB.out hQB.out).mono ?_
  rintro en w5 ⟨v1, v2, rfl, ⟨q1, Y1, rfl⟩, ⟨q2, Y2, rfl⟩, hb⟩
  have hw24 := hU.out.size
  have PY1 := Lib.hid ((q1.le hw24).alloc (.cells #[.slice Y1 PB.length PB.length, .slice Y2 QB.length QB.length] 30))
  have PY2 := Lib.hid ((q2.le hw24).alloc (.cells #[.slice Y1 PB.length PB.length, .slice Y2 QB.length QB.length] 30))
  have hBn := hB.out.trans (hb.mono hB.out.size)
  replace hB := Lib.hid (hBn.alloc hBn.size (.cells #[.slice Y1 PB.length PB.length, .slice Y2 QB.length QB.length] 30))
  clear hBn
  have hUn := hU.out.trans (hb.mono hU.out.size)
  replace hU := Lib.hid (hUn.alloc hUn.size (.cells #[.slice Y1 PB.length PB.length, .slice Y2 QB.length QB.length] 30))
  clear hUn
  replace K := Lib.hid ((K.out.below hb).alloc (.cells #[.slice Y1 PB.length PB.length, .slice Y2 QB.length QB.length] 30))
  replace JS := Lib.hid ((JS.out.below hb).alloc (.cells #[.slice Y1 PB.length PB.length, .slice Y2 QB.length QB.length] 30))
  replace JL := Lib.hid ((JL.out.below hb).alloc (.cells #[.slice Y1 PB.length PB.length, .slice Y2 QB.length QB.length] 30))
  replace JM := Lib.hid ((JM.out.below hb).alloc (.cells #[.slice Y1 PB.length PB.length, .slice Y2 QB.length QB.length] 30))
  replace PX1 := Lib.hid ((PX1.out.below hb).alloc (.cells #[.slice Y1 PB.length PB.length, .slice Y2 QB.length QB.length] 30))
  replace PX2 := Lib.hid ((PX2.out.below hb).alloc (.cells #[.slice Y1 PB.length PB.length, .slice Y2 QB.length QB.length] 30))
  replace K := Lib.hid (K.out.snoc (Blk.new w5 30 #[.slice Y1 PB.length PB.length, .slice Y2 QB.length QB.length]))
  clear mm0 mm1 hb q1 q2 hw24
  go_upto_region 4 with fail
  generalize hW : w5.alloc (.cells #[.slice Y1 PB.length PB.length, .slice Y2 QB.length QB.length] 30) = w6 at hB hU K JS JL JM PX1 PX2 PY1 PY2  ⊢
  generalize hg : w5.heap.size = gb at K  ⊢
  clear hW hg w5
  have mm0 : w6.cell? ⟨gm, 0, none⟩ = some (.slice (some ⟨g1, 0, none⟩) p1 c1) := (K.out.at_ 1 rfl).cell 0
  have mm1 : w6.cell? ⟨gm, 1, none⟩ = some (.slice (some ⟨g2, 0, none⟩) p2 c2) := (K.out.at_ 1 rfl).cell 1
  go_wp2_with fail
  refine (hAt.out _ _ _ JM.out).mono ?_
  rintro en w7 ⟨rfl, hb⟩
  replace hB := Lib.hid (hB.out.trans (hb.mono hB.out.size))
  replace hU := Lib.hid (hU.out.trans (hb.mono hU.out.size))
  replace K := Lib.hid ((K.out.below hb))
  replace JS := Lib.hid ((JS.out.below hb))
  replace JL := Lib.hid ((JL.out.below hb))
  replace JM := Lib.hid ((JM.out.below hb))
  replace PX1 := Lib.hid ((PX1.out.below hb))
  replace PX2 := Lib.hid ((PX2.out.below hb))
  replace PY1 := Lib.hid ((PY1.out.below hb))
  replace PY2 := Lib.hid ((PY2.out.below hb))
  clear mm0 mm1 hb hAt
  have hKe : Hid (∀ W, Below w7.heap.size w7 W → Calls Tryz.prog 20 #[.agg #[.slice (some ⟨g1, 0, none⟩) p1 c1, .slice (some ⟨g2, 0, none⟩) p2 c2], .agg #[.slice A1 n1 d1, .slice A2 n2 d2]] W (RetVal (.bool true) W)) := Lib.hid (fun W hb => by
    have := kept_any g1 c1 g2 c2 _ _ _ P Q W (JS.out.below hb) (JL.out.below hb)
    rw [← hp1.out, ← hp2.out] at this
    exact this)
  have hCk : Hid (∀ W, Below w7.heap.size w7 W → Calls Tryz.prog 21 #[.agg #[.slice (some ⟨g1, 0, none⟩) p1 c1, .slice (some ⟨g2, 0, none⟩) p2 c2]] W (RetVal (.int .i64 c) W)) := Lib.hid (fun W hb => by
    rw [hc.out]; exact iChk_any _ _ P Q W (JM.out.below hb))
  have hMy : Hid (∀ W, Below w7.heap.size w7 W → Calls Tryz.prog 22 #[.agg #[.slice A1 n1 d1, .slice A2 n2 d2]] W (RetVal (.bool m) W)) := Lib.hid (fun W hb => by
    rw [hm.out]; exact ritmay_any _ _ P Q W (JS.out.below hb))
  have mg0 : ∀ d os, (grow (redrawn w7 d) os).cell? ⟨gm, 0, none⟩ = some (.slice (some ⟨g1, 0, none⟩) p1 c1) := cell_regrown ((K.out.at_ 1 rfl).cell 0)
  have mg1 : ∀ d os, (grow (redrawn w7 d) os).cell? ⟨gm, 1, none⟩ = some (.slice (some ⟨g2, 0, none⟩) p2 c2) := cell_regrown ((K.out.at_ 1 rfl).cell 1)
  have sg0 : ∀ d os, (grow (redrawn w7 d) os).cell? ⟨w.heap.size, 0, none⟩ = some (.slice A1 n1 d1) := cell_regrown ((K.out.at_ 0 rfl).cell 0)
  have sg1 : ∀ d os, (grow (redrawn w7 d) os).cell? ⟨w.heap.size, 1, none⟩ = some (.slice A2 n2 d2) := cell_regrown ((K.out.at_ 0 rfl).cell 1)
  have cke : ∀ d os, Calls Tryz.prog 20 #[.agg #[.slice (some ⟨g1, 0, none⟩) p1 c1, .slice (some ⟨g2, 0, none⟩) p2 c2], .agg #[.slice A1 n1 d1, .slice A2 n2 d2]] (grow (redrawn w7 d) os) fun e w'' => e = .returned (.bool true) ∧ ∃ p : Regrown, w'' = grow (redrawn w7 p.d) p.os :=
    fun d os => Calls.regrown_of (hKe.out _ (below_regrown w7 d os))
  have cck : ∀ d os, Calls Tryz.prog 21 #[.agg #[.slice (some ⟨g1, 0, none⟩) p1 c1, .slice (some ⟨g2, 0, none⟩) p2 c2]] (grow (redrawn w7 d) os) fun e w'' => e = .returned (.int .i64 c) ∧ ∃ p : Regrown, w'' = grow (redrawn w7 p.d) p.os :=
    fun d os => Calls.regrown_of (hCk.out _ (below_regrown w7 d os))
  have cmy : ∀ d os, Calls Tryz.prog 22 #[.agg #[.slice A1 n1 d1, .slice A2 n2 d2]] (grow (redrawn w7 d) os) fun e w'' => e = .returned (.bool m) ∧ ∃ p : Regrown, w'' = grow (redrawn w7 p.d) p.os :=
    fun d os => Calls.regrown_of (hMy.out _ (below_regrown w7 d os))
  go_wp2_with fail
  refine wp_region_quiet_below (by kernel_rfl) (by kernel_rfl) ?_
  iterate 2 (quiet_step (fail))
  quiet_step (exact cke _ _)
  iterate 3 (quiet_step (fail))
  quiet_step (exact cck _ _)
  iterate 2 (quiet_step (fail))
  quiet_step (exact cmy _ _)
  iterate 2 (quiet_step (fail))
  refine wpQuiet_nil ?_
  intro w8 hw'
  have hb : Below w7.heap.size w7 w8 := by
    obtain ⟨p, rfl⟩ := hw'
    exact below_regrown w7 p.d p.os
  replace hB := Lib.hid (hB.out.trans (hb.mono hB.out.size))
  replace hU := Lib.hid (hU.out.trans (hb.mono hU.out.size))
  replace K := Lib.hid ((K.out.below hb))
  replace JS := Lib.hid ((JS.out.below hb))
  replace JL := Lib.hid ((JL.out.below hb))
  replace JM := Lib.hid ((JM.out.below hb))
  replace PX1 := Lib.hid ((PX1.out.below hb))
  replace PX2 := Lib.hid ((PX2.out.below hb))
  replace PY1 := Lib.hid ((PY1.out.below hb))
  replace PY2 := Lib.hid ((PY2.out.below hb))
  clear mg0 mg1 sg0 sg1 hw' hb cke cck cmy hKe hCk hMy
  go_upto_region 7 with fail
  go_upto_region 8 with fail
  replace hB := Lib.hid (hB.out.alloc hB.out.size (.cells #[.slice none 0 0, .slice none 0 0] 30))
  replace hU := Lib.hid (hU.out.alloc hU.out.size (.cells #[.slice none 0 0, .slice none 0 0] 30))
  replace K := Lib.hid (K.out.alloc (.cells #[.slice none 0 0, .slice none 0 0] 30))
  replace JS := Lib.hid (JS.out.alloc (.cells #[.slice none 0 0, .slice none 0 0] 30))
  replace JL := Lib.hid (JL.out.alloc (.cells #[.slice none 0 0, .slice none 0 0] 30))
  replace JM := Lib.hid (JM.out.alloc (.cells #[.slice none 0 0, .slice none 0 0] 30))
  replace PX1 := Lib.hid (PX1.out.alloc (.cells #[.slice none 0 0, .slice none 0 0] 30))
  replace PX2 := Lib.hid (PX2.out.alloc (.cells #[.slice none 0 0, .slice none 0 0] 30))
  replace PY1 := Lib.hid (PY1.out.alloc (.cells #[.slice none 0 0, .slice none 0 0] 30))
  replace PY2 := Lib.hid (PY2.out.alloc (.cells #[.slice none 0 0, .slice none 0 0] 30))
  replace K := Lib.hid (K.out.snoc (Blk.new w8 30 #[.slice none 0 0, .slice none 0 0]))
  generalize hW : w8.alloc (.cells #[.slice none 0 0, .slice none 0 0] 30) = w9 at hB hU K JS JL JM PX1 PX2 PY1 PY2 ⊢
  generalize hg : w8.heap.size = gz at K ⊢
  clear hW hg w8
  have sa0 : w9.cell? ⟨w.heap.size, 0, none⟩ = some (.slice A1 n1 d1) := (K.out.at_ 0 rfl).cell 0
  have sa1 : w9.cell? ⟨w.heap.size, 1, none⟩ = some (.slice A2 n2 d2) := (K.out.at_ 0 rfl).cell 1
  go_wp2_with fail
  refine (ritmay_any _ _ P Q _ JS.out).mono ?_
  rintro en w10 ⟨rfl, hb⟩
  rw [← hm.out]
  replace hB := Lib.hid (hB.out.trans (hb.mono hB.out.size))
  replace hU := Lib.hid (hU.out.trans (hb.mono hU.out.size))
  replace K := Lib.hid ((K.out.below hb))
  replace JS := Lib.hid ((JS.out.below hb))
  replace JL := Lib.hid ((JL.out.below hb))
  replace JM := Lib.hid ((JM.out.below hb))
  replace PX1 := Lib.hid ((PX1.out.below hb))
  replace PX2 := Lib.hid ((PX2.out.below hb))
  replace PY1 := Lib.hid ((PY1.out.below hb))
  replace PY2 := Lib.hid ((PY2.out.below hb))
  clear sa0 sa1 hb
  cases m
  case false =>
    have hmm := hm.out.symm
    have hc2 : c = 220 := by rw [hc.out]; unfold chkE; rw [hmm]; rfl
    have hE3 : E2 = 220 := by rw [hE2.out]; unfold atE; rw [hmm]; rfl
    have hP3 : PA = [] := by rw [hPA.out, hmm]; rfl
    have hQ3 : QA = [] := by rw [hQA.out, hmm]; rfl
    have hn3 : ¬ E2 = 0 := by rw [hE3]; decide
    have hP4 : PB = [] := by rw [hPB.out, if_neg hn3]
    have hQ4 : QB = [] := by rw [hQB.out, if_neg hn3]
    have hx3 : x = 0 := by rw [hx.out, if_neg hn3]
    clear hPA hQA hE2 hPB hQB hc hx hn3 hcb hcm hmm
    subst hc2 hE3 hP3 hQ3 hP4 hQ4 hx3
    have JX := Lib.hid (Itn.of_pf PX1.out PX2.out mA.out)
    have JY := Lib.hid (Itn.of_pf PY1.out PY2.out mB.out)
    clear PX1 PX2 PY1 PY2 JS JL
    have mm0 : w10.cell? ⟨gm, 0, none⟩ = some (.slice (some ⟨g1, 0, none⟩) p1 c1) := (K.out.at_ 1 rfl).cell 0
    have mm1 : w10.cell? ⟨gm, 1, none⟩ = some (.slice (some ⟨g2, 0, none⟩) p2 c2) := (K.out.at_ 1 rfl).cell 1
    go_wp2_with fail
    refine (iChk_any _ _ P Q _ JM.out).mono ?_
    rintro en w11 ⟨rfl, hb⟩
    rw [show chkE P Q = 220 by unfold chkE; rw [← hm.out]; rfl]
    replace hB := Lib.hid (hB.out.trans (hb.mono hB.out.size))
    replace hU := Lib.hid (hU.out.trans (hb.mono hU.out.size))
    replace K := Lib.hid ((K.out.below hb))
    replace JM := Lib.hid ((JM.out.below hb))
    replace JX := Lib.hid ((JX.out.below hb))
    replace JY := Lib.hid ((JY.out.below hb))
    clear mm0 mm1 hb
    have xx0 : w11.cell? ⟨ga, 0, none⟩ = some (.slice X1 ([] : List Nat).length ([] : List Nat).length) := (K.out.at_ 2 rfl).cell 0
    have xx1 : w11.cell? ⟨ga, 1, none⟩ = some (.slice X2 ([] : List Nat).length ([] : List Nat).length) := (K.out.at_ 2 rfl).cell 1
    have zz0 : w11.cell? ⟨gz, 0, none⟩ = some (.slice none 0 0) := (K.out.at_ 4 rfl).cell 0
    have zz1 : w11.cell? ⟨gz, 1, none⟩ = some (.slice none 0 0) := (K.out.at_ 4 rfl).cell 1
    go_wp2_with fail
    refine (rsameT _ _ _ _ [] [] _ JX.out (Itn.none_ _)).mono ?_
    rintro en w12 ⟨rfl, hb⟩
    replace hB := Lib.hid (hB.out.trans (hb.mono hB.out.size))
    replace hU := Lib.hid (hU.out.trans (hb.mono hU.out.size))
    replace K := Lib.hid ((K.out.below hb))
    replace JM := Lib.hid ((JM.out.below hb))
    replace JX := Lib.hid ((JX.out.below hb))
    replace JY := Lib.hid ((JY.out.below hb))
    clear xx0 xx1 zz0 zz1 hb
    have yy0 : w12.cell? ⟨gb, 0, none⟩ = some (.slice Y1 ([] : List Nat).length ([] : List Nat).length) := (K.out.at_ 3 rfl).cell 0
    have yy1 : w12.cell? ⟨gb, 1, none⟩ = some (.slice Y2 ([] : List Nat).length ([] : List Nat).length) := (K.out.at_ 3 rfl).cell 1
    have zz0 : w12.cell? ⟨gz, 0, none⟩ = some (.slice none 0 0) := (K.out.at_ 4 rfl).cell 0
    have zz1 : w12.cell? ⟨gz, 1, none⟩ = some (.slice none 0 0) := (K.out.at_ 4 rfl).cell 1
    go_wp2_with fail
    refine (rsameT _ _ _ _ [] [] _ JY.out (Itn.none_ _)).mono ?_
    rintro en w13 ⟨rfl, hb⟩
    replace hB := Lib.hid (hB.out.trans (hb.mono hB.out.size))
    replace hU := Lib.hid (hU.out.trans (hb.mono hU.out.size))
    replace K := Lib.hid ((K.out.below hb))
    replace JM := Lib.hid ((JM.out.below hb))
    replace JX := Lib.hid ((JX.out.below hb))
    replace JY := Lib.hid ((JY.out.below hb))
    clear yy0 yy1 zz0 zz1 hb
    go_wp2_with fail
    refine (lives_any _).mono ?_
    rintro en w14 ⟨rfl, hb⟩
    replace hB := Lib.hid (hB.out.trans (hb.mono hB.out.size))
    clear hb
    go_wp2_with fail
    go_ret
    exact ⟨rfl, hB.out⟩
  case true =>
    have hmm := hm.out.symm
    obtain ⟨q1, q2, q3, q4⟩ := mayI_spec hmm
    have hc2 : c = 0 := by rw [hc.out]; exact mayI_yes hmm
    have hPA2 := hPA.out
    have hQA2 := hQA.out
    rw [hmm, if_pos rfl] at hPA2 hQA2
    have mlA : mayI PA QA = true := by rw [hPA2, hQA2]; exact low_may hmm
    subst hc2
    replace hmm := Lib.hid hmm
    clear hcb hcm hPA hQA q3 q4 JM
    replace hPA2 := Lib.hid hPA2
    replace hQA2 := Lib.hid hQA2
    have SP1 : Hid (Sp w10 (.slice (some ⟨g1, 0, none⟩) p1 c1) p1) := Lib.hid (by rw [hp1.out]; exact Sp.of_own JL.out.1 (by omega))
    have SP2 : Hid (Sp w10 (.slice (some ⟨g2, 0, none⟩) p2 c2) p2) := Lib.hid (by rw [hp2.out]; exact Sp.of_own JL.out.2 (by omega))
    have hl1 : p1 ≤ 140737488355000 := by have := hp1.out; omega
    have hl2 : p2 ≤ 140737488355000 := by have := hp2.out; omega
    have hWr : Hid (∀ k, (WrB (.slice (some ⟨g1, 0, none⟩) p1 c1) k ∨ WrB (.slice (some ⟨g2, 0, none⟩) p2 c2) k) → w.heap.size ≤ k ∧ k < w2.heap.size) := Lib.hid (fun k hk => by
      have h12 := hg12.out
      rcases hk with ⟨_, _, e, -⟩ | ⟨_, _, e, -⟩
      · injection e with e; injection e with e; injection e with e; omega
      · injection e with e; injection e with e; injection e with e; omega)
    have mm0 : w10.cell? ⟨gm, 0, none⟩ = some (.slice (some ⟨g1, 0, none⟩) p1 c1) := (K.out.at_ 1 rfl).cell 0
    have mm1 : w10.cell? ⟨gm, 1, none⟩ = some (.slice (some ⟨g2, 0, none⟩) p2 c2) := (K.out.at_ 1 rfl).cell 1
    go_wp2_with fail
    refine (spoil_any _ _ _ _ _ SP1.out SP2.out hl1 hl2).mono ?_
    rintro en w11 ⟨rfl, hbu⟩
    have K2 := Lib.hid (K.out.but hbu (fun k hk => hk.elim (fun h => SP1.out.wr h) (fun h => SP2.out.wr h)) (by first | rfl | decide))
    have JX := Lib.hid (Itn.of_pf (PX1.out.but hbu (fun k hk hr => by have := (hWr.out k hr).2; omega)) (PX2.out.but hbu (fun k hk hr => by have := (hWr.out k hr).2; omega)) mA.out)
    have JY := Lib.hid (Itn.of_pf (PY1.out.but hbu (fun k hk hr => by have := (hWr.out k hr).2; omega)) (PY2.out.but hbu (fun k hk hr => by have := (hWr.out k hr).2; omega)) mB.out)
    replace hB := Lib.hid (hB.out.trans (hbu.toBelow hB.out.size (fun k hk hr => by have := (hWr.out k hr).1; omega)))
    clear hbu K PX1 PX2 PY1 PY2 SP1 SP2 JS JL hU
    have JS := Lib.hid (hI0.out.below hB.out)
    replace K := K2
    clear K2
    clear mm0 mm1 
    have hS : Hid (∀ V, Below w11.heap.size w11 V → V.cell? ⟨ga, 0, none⟩ = some (.slice X1 PA.length PA.length) ∧ V.cell? ⟨ga, 1, none⟩ = some (.slice X2 QA.length QA.length) ∧ V.cell? ⟨w.heap.size, 0, none⟩ = some (.slice A1 n1 d1) ∧ V.cell? ⟨w.heap.size, 1, none⟩ = some (.slice A2 n2 d2)) := Lib.hid (fun V hb => ⟨(Blk.below (K.out.at_ 2 rfl) hb).cell 0, (Blk.below (K.out.at_ 2 rfl) hb).cell 1, (Blk.below (K.out.at_ 0 rfl) hb).cell 0, (Blk.below (K.out.at_ 0 rfl) hb).cell 1⟩)
    obtain ⟨t0, t1, t2, t3⟩ := hS.out w11 (Below.refl _ _)
    have hLo : Hid (Calls Tryz.prog 23 #[.agg #[.slice A1 n1 d1, .slice A2 n2 d2]] w11.drew (RetPQf PA QA w11.drew)) := Lib.hid (by
      rw [hPA2.out, hQA2.out]
      exact rLowest_any _ _ P Q _ (JS.out.below ((Below.refl _ w11).drew)) q1 (by omega) (by omega))
    have hSm : Hid (∀ V B v5 v6, Below w11.heap.size w11 V → Pf V B v5 PA → Pf V B v6 QA → Calls Tryz.prog 12 #[.agg #[.slice X1 PA.length PA.length, .slice X2 QA.length QA.length], .agg #[v5, v6]] V (RetVal (.bool true) V)) := Lib.hid (fun V B v5 v6 hb h5 h6 =>
      rsameT _ _ _ _ PA QA V (JX.out.below hb) (Itn.of_pf h5 h6 mA.out))
    go_wp2_with fail
    go_region_held3 (fun w' => w'.cell? ⟨ga, 0, none⟩ = some (.slice X1 PA.length PA.length) ∧ w'.cell? ⟨ga, 1, none⟩ = some (.slice X2 QA.length QA.length) ∧ w'.cell? ⟨w.heap.size, 0, none⟩ = some (.slice A1 n1 d1) ∧ w'.cell? ⟨w.heap.size, 1, none⟩ = some (.slice A2 n2 d2)) (go_keep)
      (first
        | (go_at_call 23; (with_reducible refine hLo.out.mono ?_); rintro en w12 ⟨v5, v6, rfl, g5, g6, hb5⟩; have hb5' := below_after (Nat.le_refl _) hb5; obtain ⟨u0, u1, u2, u3⟩ := hS.out _ hb5'; obtain ⟨V5, C5, rfl, -⟩ := g5.form; obtain ⟨V6, C6, rfl, -⟩ := g6.form; replace hb5' := Lib.hid hb5'; replace g5 := Lib.hid g5; replace g6 := Lib.hid g6; clear hb5)
        | (go_at_call 12; (with_reducible refine (hSm.out _ _ _ _ hb5'.out g5.out g6.out).mono ?_); rintro en w13 ⟨rfl, hb6⟩; have hb6' := hb5'.out.trans (hb6.mono hb5'.out.size); obtain ⟨y0, y1, y2, y3⟩ := hS.out _ hb6'; replace hb6' := Lib.hid hb6'; clear hb6))
    have hb := hb6'.out
    replace hB := Lib.hid (hB.out.trans (hb.mono hB.out.size))
    replace K := Lib.hid ((K.out.below hb))
    replace JX := Lib.hid ((JX.out.below hb))
    replace JY := Lib.hid ((JY.out.below hb))
    replace JS := Lib.hid ((JS.out.below hb))
    clear  hb hb6' hb5' g5 g6 hLo hSm hS t0 t1 t2 t3 u0 u1 u2 u3 y0 y1 y2 y3
    by_cases hn0 : n < 0
    case pos =>
      have hE3 : E2 = 2 := by rw [hE2.out]; unfold atE; rw [hmm.out, if_pos rfl, if_pos hn0]
      have hn3 : ¬ E2 = 0 := by rw [hE3]; decide
      have hP4 : PB = [] := by rw [hPB.out, if_neg hn3]
      have hQ4 : QB = [] := by rw [hQB.out, if_neg hn3]
      have hx3 : x = 0 := by rw [hx.out, if_neg hn3]
      clear hE2 hPB hQB hx hn3
      subst hE3 hP4 hQ4 hx3
      have yy0 : w13.cell? ⟨gb, 0, none⟩ = some (.slice Y1 ([] : List Nat).length ([] : List Nat).length) := (K.out.at_ 3 rfl).cell 0
      have yy1 : w13.cell? ⟨gb, 1, none⟩ = some (.slice Y2 ([] : List Nat).length ([] : List Nat).length) := (K.out.at_ 3 rfl).cell 1
      have zz0 : w13.cell? ⟨gz, 0, none⟩ = some (.slice none 0 0) := (K.out.at_ 4 rfl).cell 0
      have zz1 : w13.cell? ⟨gz, 1, none⟩ = some (.slice none 0 0) := (K.out.at_ 4 rfl).cell 1
      go_wp2_with fail
      refine (rsameT _ _ _ _ [] [] _ JY.out (Itn.none_ _)).mono ?_
      rintro en w14 ⟨rfl, hb⟩
      replace hB := Lib.hid (hB.out.trans (hb.mono hB.out.size))
      replace K := Lib.hid ((K.out.below hb))
      replace JX := Lib.hid ((JX.out.below hb))
      replace JY := Lib.hid ((JY.out.below hb))
      replace JS := Lib.hid ((JS.out.below hb))
      clear yy0 yy1 zz0 zz1 hb
      go_wp2_with fail
      refine (lives_any _).mono ?_
      rintro en w15 ⟨rfl, hb⟩
      replace hB := Lib.hid (hB.out.trans (hb.mono hB.out.size))
      clear hb
      go_wp2_with fail
      go_ret
      exact ⟨rfl, hB.out⟩
    case neg =>
      obtain ⟨k, rfl⟩ : ∃ k : Nat, n = (k : Int) := ⟨n.toNat, by omega⟩
      have hE3 : E2 = 0 := by rw [hE2.out]; unfold atE; rw [hmm.out, if_pos rfl, if_neg hn0]
      have hPB2 := hPB.out
      have hQB2 := hQB.out
      have hx2 := hx.out
      rw [if_pos hE3, Int.toNat_natCast] at hPB2 hQB2 hx2
      clear hE2 hPB hQB hx
      subst hE3
      replace hPB2 := Lib.hid hPB2
      replace hQB2 := Lib.hid hQB2
      replace hx2 := Lib.hid hx2
      have xx : ((x : Int) == (x : Int)) = true := beq_self_eq_true _
      have hS : Hid (∀ V, Below w13.heap.size w13 V → V.cell? ⟨gb, 0, none⟩ = some (.slice Y1 PB.length PB.length) ∧ V.cell? ⟨gb, 1, none⟩ = some (.slice Y2 QB.length QB.length) ∧ V.cell? ⟨w.heap.size, 0, none⟩ = some (.slice A1 n1 d1) ∧ V.cell? ⟨w.heap.size, 1, none⟩ = some (.slice A2 n2 d2)) := Lib.hid (fun V hb => ⟨(Blk.below (K.out.at_ 3 rfl) hb).cell 0, (Blk.below (K.out.at_ 3 rfl) hb).cell 1, (Blk.below (K.out.at_ 0 rfl) hb).cell 0, (Blk.below (K.out.at_ 0 rfl) hb).cell 1⟩)
      obtain ⟨t0, t1, t2, t3⟩ := hS.out w13 (Below.refl _ _)
      have hLo : Hid (Calls Tryz.prog 24 #[.agg #[.slice A1 n1 d1, .slice A2 n2 d2], .int .i64 (k : Int)] w13.drew (RetPQf PB QB w13.drew)) := Lib.hid (by
        rw [hPB2.out, hQB2.out]
        exact rShift_any _ _ P Q k _ (JS.out.below ((Below.refl _ w13).drew)) q1 (by omega) (by omega) hn9)
      have hSm : Hid (∀ V B v5 v6, Below w13.heap.size w13 V → Pf V B v5 PB → Pf V B v6 QB → Calls Tryz.prog 12 #[.agg #[.slice Y1 PB.length PB.length, .slice Y2 QB.length QB.length], .agg #[v5, v6]] V (RetVal (.bool true) V)) := Lib.hid (fun V B v5 v6 hb h5 h6 =>
        rsameT _ _ _ _ PB QB V (JY.out.below hb) (Itn.of_pf h5 h6 mB.out))
      have hAt : Hid (∀ V, Below w13.heap.size w13 V → Calls Tryz.prog 25 #[.agg #[.slice A1 n1 d1, .slice A2 n2 d2], .int .i64 (k : Int)] V (RetVal (.int .u8 (x : Int)) V)) := Lib.hid (fun V hb => by
        obtain ⟨⟨B1, b1, e1, U1, f1, h1⟩, ⟨B2, b2, e2, U2, f2, h2⟩, -⟩ := JS.out.below hb
        cases f1
        cases f2
        rw [hx2.out]
        exact ritatB_any (T1 := U1) (T2 := U2) A1 A2 n1 d1 n2 d2 k P Q V h1 h2 q1 (by omega) (by omega) (by omega))
      go_wp2_with fail
      go_region_held3 (fun w' => w'.cell? ⟨gb, 0, none⟩ = some (.slice Y1 PB.length PB.length) ∧ w'.cell? ⟨gb, 1, none⟩ = some (.slice Y2 QB.length QB.length) ∧ w'.cell? ⟨w.heap.size, 0, none⟩ = some (.slice A1 n1 d1) ∧ w'.cell? ⟨w.heap.size, 1, none⟩ = some (.slice A2 n2 d2)) (go_keep)
        (first
          | (go_at_call 24; (with_reducible refine hLo.out.mono ?_); rintro en w14 ⟨v5, v6, rfl, g5, g6, hb5⟩; have hb5' := below_after (Nat.le_refl _) hb5; obtain ⟨u0, u1, u2, u3⟩ := hS.out _ hb5'; obtain ⟨V5, C5, rfl, -⟩ := g5.form; obtain ⟨V6, C6, rfl, -⟩ := g6.form; replace hb5' := Lib.hid hb5'; replace g5 := Lib.hid g5; replace g6 := Lib.hid g6; clear hb5)
          | (go_at_call 12; (with_reducible refine (hSm.out _ _ _ _ hb5'.out g5.out g6.out).mono ?_); rintro en w15 ⟨rfl, hb6⟩; have hb6' := hb5'.out.trans (hb6.mono hb5'.out.size); obtain ⟨y0, y1, y2, y3⟩ := hS.out _ hb6'; replace hb6' := Lib.hid hb6'; clear hb6)
          | (go_at_call 25; (with_reducible refine (hAt.out _ hb6'.out).mono ?_); rintro en w16 ⟨rfl, hb7⟩; have hb7' := hb6'.out.trans (hb7.mono hb6'.out.size); obtain ⟨z0, z1, z2, z3⟩ := hS.out _ hb7'; replace hb7' := Lib.hid hb7'; clear hb7)
          | (go_at_call 13; (with_reducible refine (lives_any _).mono ?_); rintro en w17 ⟨rfl, hb8⟩; have hb8' := hb7'.out.trans (hb8.mono hb7'.out.size); obtain ⟨p0, p1', p2', p3⟩ := hS.out _ hb8'; replace hb8' := Lib.hid hb8'; clear hb8))
      have hb := hb8'.out
      replace hB := Lib.hid (hB.out.trans (hb.mono hB.out.size))
      go_wp2_with fail
      go_ret
      exact ⟨rfl, hB.out⟩
end Go.Proofs.YtbddlbhanpjdnaaGreatDoor
