/- filigreelaw23.LaminLeaves: the walk. -/
import Derived.Test.YtoaggmegmgdgbaaGreatLamL
import Derived.Test.YtoaggmegmgdgbaaGreatRLfB
import Derived.Deep.CutBlock
import Derived.Deep.CutRange
namespace Go.Proofs.YtoaggmegmgdgbaaGreat
open Go.RowKit Go.Sort

theorem take7 {α : Type} {a b c d e f g h k x : α} {i : Nat} (hx : [a, b, c, d, e, f, g][i]? = some x) : [a, b, c, d, e, f, g, h, k][i]? = some x := by
  have : i < 7 := by
    rcases Nat.lt_or_ge i 7 with h | h
    · exact h
    · rw [List.getElem?_eq_none (by simpa using h)] at hx; cases hx
  rw [show ([a, b, c, d, e, f, g, h, k] : List α) = [a, b, c, d, e, f, g] ++ [h, k] from rfl, List.getElem?_append_left (by simpa using this)]
  exact hx
theorem rof23_form (n1 : Bool) (a1 d1 : ByteArray) (n2 : Bool) (a2 d2 : ByteArray) : ∃ p0 p1 p2 p3 : Int, (rof23 n1 a1 d1 n2 a2 d2).1 = .agg #[.int .u64 p0, .int .u64 p1, .int .u64 p2, .int .u64 p3] := by
  unfold rof23
  split
  · exact ⟨_, _, _, _, rfl⟩
  · exact ⟨0, 0, 0, 0, rfl⟩
theorem TurnLf_form (n1 : Bool) (a1 d1 : ByteArray) (n2 : Bool) (a2 d2 : ByteArray) (d : Int) : ∃ t0 t1 t2 t3 t4 t5, (TurnLf n1 a1 d1 n2 a2 d2 d).1 = .agg #[.bool t0, .string t1, .string t2, .bool t3, .string t4, .string t5] := by
  unfold TurnLf
  split
  · obtain ⟨c, b, e, h⟩ := turnLf_form ((be (sl a1), be (sl d1)), (be (sl a2), be (sl d2))) d
    rw [h]
    exact ⟨_, _, _, _, _, _, rfl⟩
  · exact ⟨_, _, _, _, _, _, rfl⟩
theorem makeLf_form (n1 : Bool) (a1 d1 : ByteArray) (n2 : Bool) (a2 d2 : ByteArray) : ∃ t0 t1 t2 t3 t4 t5, (makeLf n1 a1 d1 n2 a2 d2).1 = .agg #[.bool t0, .string t1, .string t2, .bool t3, .string t4, .string t5] := by
  unfold makeLf
  split
  · split
    · split
      · exact ⟨_, _, _, _, _, _, rfl⟩
      · exact ⟨_, _, _, _, _, _, rfl⟩
    · exact ⟨_, _, _, _, _, _, rfl⟩
  · exact ⟨_, _, _, _, _, _, rfl⟩
theorem rmake23_form (p q : Nat × Nat) : ∃ p0 p1 p2 p3 : Int, (rmake23 p q).1 = .agg #[.int .u64 p0, .int .u64 p1, .int .u64 p2, .int .u64 p3] := by
  unfold rmake23
  split
  · exact ⟨0, 0, 0, 0, rfl⟩
  · split
    · exact ⟨_, _, _, _, rfl⟩
    · exact ⟨_, _, _, _, rfl⟩
theorem leaf_ang {n1 : Bool} {a1 d1 : ByteArray} {n2 : Bool} {a2 d2 : ByteArray} (h : chkLf n1 a1 d1 n2 a2 d2 = 0) : AngL ((be (sl a1), be (sl d1)), (be (sl a2), be (sl d2))) := by
  obtain ⟨l, h1, -, -, rfl, rfl, -, rfl, rfl⟩ := chkLf_zero h
  rw [be_natS, be_natS, be_natS, be_natS]
  exact h1
theorem mkL_ang {p q : Nat × Nat} (hp : Ang p) (hq : Ang q) : AngL (mkL p q) := by
  unfold mkL
  split
  · exact ⟨hq, hp⟩
  · exact ⟨hp, hq⟩

set_option maxRecDepth 100000 in
set_option maxHeartbeats 8000000 in
/-- filigreelaw23.LaminLeaves: it is true. -/
theorem laminLeaves_any (ln : Bool) (la ld : ByteArray) (lm : Bool) (lb lc : ByteArray) (mn : Bool) (ma md : ByteArray) (mm : Bool) (mb mc : ByteArray) (an : Bool) (aa ad : ByteArray) (bn : Bool) (ba bd : ByteArray) (d : Int) (w : World) (zl1 : la.size ≤ 9223372036854775807) (zl2 : ld.size ≤ 9223372036854775807) (zl3 : lb.size ≤ 9223372036854775807) (zl4 : lc.size ≤ 9223372036854775807) (zm1 : ma.size ≤ 9223372036854775807) (zm2 : md.size ≤ 9223372036854775807) (zm3 : mb.size ≤ 9223372036854775807) (zm4 : mc.size ≤ 9223372036854775807) (za1 : aa.size ≤ 9223372036854775807) (za2 : ad.size ≤ 9223372036854775807) (zb1 : ba.size ≤ 9223372036854775807) (zb2 : bd.size ≤ 9223372036854775807) : Calls Tryz.prog 4 #[.agg #[.bool ln, .string la, .string ld, .bool lm, .string lb, .string lc], .agg #[.bool mn, .string ma, .string md, .bool mm, .string mb, .string mc], .agg #[.bool an, .string aa, .string ad], .agg #[.bool bn, .string ba, .string bd], .int .i64 d] w (RetVal (.bool true) w) := by
  obtain ⟨no, hno⟩ : ∃ c, c = chkLf ln la ld lm lb lc := ⟨_, rfl⟩
  obtain ⟨nt, hnt⟩ : ∃ c, c = chkLf mn ma md mm mb mc := ⟨_, rfl⟩
  obtain ⟨p0, p1, p2, p3, hP⟩ := rof23_form ln la ld lm lb lc
  obtain ⟨r0, r1, r2, r3, hR⟩ := rof23_form mn ma md mm mb mc
  obtain ⟨t0, t1, t2, t3, t4, t5, hT⟩ := TurnLf_form ln la ld lm lb lc d
  have hP2 : no = 0 → .agg #[.int .u64 p0, .int .u64 p1, .int .u64 p2, .int .u64 p3] = rlV ((be (sl la), be (sl ld)), (be (sl lb), be (sl lc))) := fun h => by rw [← hP, rof23, if_pos (hno ▸ h)]
  have hR2 : nt = 0 → .agg #[.int .u64 r0, .int .u64 r1, .int .u64 r2, .int .u64 r3] = rlV ((be (sl ma), be (sl md)), (be (sl mb), be (sl mc))) := fun h => by rw [← hR, rof23, if_pos (hnt ▸ h)]
  have cOf1 : Hid (∀ W, Calls Tryz.prog 16 #[.agg #[.bool ln, .string la, .string ld, .bool lm, .string lb, .string lc]] W (RetVal (.tuple #[.agg #[.int .u64 p0, .int .u64 p1, .int .u64 p2, .int .u64 p3], .int .i64 no]) W)) := Lib.hid (fun W => by
    have h := rlOf_any ln la ld lm lb lc W zl1 zl2 zl3 zl4
    rw [hP] at h
    rw [hno]; exact h)
  have cOf2 : Hid (∀ W, Calls Tryz.prog 16 #[.agg #[.bool mn, .string ma, .string md, .bool mm, .string mb, .string mc]] W (RetVal (.tuple #[.agg #[.int .u64 r0, .int .u64 r1, .int .u64 r2, .int .u64 r3], .int .i64 nt]) W)) := Lib.hid (fun W => by
    have h := rlOf_any mn ma md mm mb mc W zm1 zm2 zm3 zm4
    rw [hR] at h
    rw [hnt]; exact h)
  have cChk : Hid (∀ W, Calls Tryz.prog 17 #[.agg #[.bool ln, .string la, .string ld, .bool lm, .string lb, .string lc]] W (RetVal (.int .i64 no) W)) := Lib.hid (fun W => by rw [hno]; exact lCheck_any ln la ld lm lb lc W zl1 zl2 zl3 zl4)
  obtain ⟨cb, hcb⟩ : ∃ c, c = (crossLf ln la ld lm lb lc mn ma md mm mb mc).1 := ⟨_, rfl⟩
  obtain ⟨ce, hce⟩ : ∃ c, c = (crossLf ln la ld lm lb lc mn ma md mm mb mc).2 := ⟨_, rfl⟩
  have cCr : Hid (∀ W, Calls Tryz.prog 18 #[.agg #[.bool ln, .string la, .string ld, .bool lm, .string lb, .string lc], .agg #[.bool mn, .string ma, .string md, .bool mm, .string mb, .string mc]] W (RetVal (.tuple #[.bool cb, .int .i64 ce]) W)) := Lib.hid (fun W => by rw [hcb, hce]; exact lCross_any ln la ld lm lb lc mn ma md mm mb mc W zl1 zl2 zl3 zl4 zm1 zm2 zm3 zm4)
  have hC1 : no ≠ 0 → cb = false ∧ ce = no := fun h => by
    rw [hcb, hce, crossLf, if_neg (hno ▸ h)]
    exact ⟨rfl, hno.symm⟩
  have hC2 : no = 0 → nt ≠ 0 → cb = false ∧ ce = nt := fun h h2 => by
    rw [hcb, hce, crossLf, if_pos (hno ▸ h), if_neg (hnt ▸ h2)]
    exact ⟨rfl, hnt.symm⟩
  have hC3 : no = 0 → nt = 0 → ce = 0 ∧ ∀ W, Calls Tryz.prog 19 #[.agg #[.int .u64 p0, .int .u64 p1, .int .u64 p2, .int .u64 p3], .agg #[.int .u64 r0, .int .u64 r1, .int .u64 r2, .int .u64 r3]] W (RetVal (.bool cb) W) := fun h h2 => by
    have e : crossLf ln la ld lm lb lc mn ma md mm mb mc = (partsP ((be (sl la), be (sl ld)), (be (sl lb), be (sl lc))) ((be (sl ma), be (sl md)), (be (sl mb), be (sl mc))).1 ((be (sl ma), be (sl md)), (be (sl mb), be (sl mc))).2, 0) := by rw [crossLf, if_pos (hno ▸ h), if_pos (hnt ▸ h2)]
    refine ⟨by rw [hce, e], fun W => ?_⟩
    rw [hP2 h, hR2 h2, hcb, e]
    exact rlCross_any ((be (sl la), be (sl ld)), (be (sl lb), be (sl lc))) ((be (sl ma), be (sl md)), (be (sl mb), be (sl mc))) W (leaf_ang (hno ▸ h)) (leaf_ang (hnt ▸ h2))
  obtain ⟨tb, htb⟩ : ∃ c, c = (TurnLf ln la ld lm lb lc d).2.1 := ⟨_, rfl⟩
  obtain ⟨te, hte⟩ : ∃ c, c = (TurnLf ln la ld lm lb lc d).2.2 := ⟨_, rfl⟩
  have cTu : Hid (∀ W, Calls Tryz.prog 20 #[.agg #[.bool ln, .string la, .string ld, .bool lm, .string lb, .string lc], .int .i64 d] W (RetVal (.tuple #[.agg #[.bool t0, .string t1, .string t2, .bool t3, .string t4, .string t5], .bool tb, .int .i64 te]) W)) := Lib.hid (fun W => by
    have h := lTurn_any ln la ld lm lb lc d W zl1 zl2 zl3 zl4
    rw [hT] at h
    rw [htb, hte]; exact h)
  obtain ⟨td, htd⟩ : ∃ c : Int, c = if roundB d then 0 else 2 := ⟨_, rfl⟩
  have cTd : Hid (∀ W, Calls Tryz.prog 21 #[.int .i64 d] W (RetVal (.int .i64 td) W)) := Lib.hid (fun W => by rw [htd]; exact lturnedd_any d W)
  have agg6 : ∀ {x0 y0 : Bool} {x1 x2 y1 y2 : ByteArray} {x3 y3 : Bool} {x4 x5 y4 y5 : ByteArray}, Value.agg #[.bool x0, .string x1, .string x2, .bool x3, .string x4, .string x5] = .agg #[.bool y0, .string y1, .string y2, .bool y3, .string y4, .string y5] → x0 = y0 ∧ x1 = y1 ∧ x2 = y2 ∧ x3 = y3 ∧ x4 = y4 ∧ x5 = y5 := fun h => by
    injection h with h
    simp at h
    exact ⟨h.1, h.2.1, h.2.2.1, h.2.2.2.1, h.2.2.2.2.1, h.2.2.2.2.2⟩
  have hZ : (.agg #[.bool t0, .string t1, .string t2, .bool t3, .string t4, .string t5] : Value) = leaf0 → t0 = false ∧ t1 = ⟨#[]⟩ ∧ t2 = ⟨#[]⟩ ∧ t3 = false ∧ t4 = ⟨#[]⟩ ∧ t5 = ⟨#[]⟩ := fun h => agg6 h
  have hT1 : no ≠ 0 → (t0 = false ∧ t1 = ⟨#[]⟩ ∧ t2 = ⟨#[]⟩ ∧ t3 = false ∧ t4 = ⟨#[]⟩ ∧ t5 = ⟨#[]⟩) ∧ tb = false ∧ te = no := fun h => by
    rw [TurnLf, if_neg (hno ▸ h)] at hT htb hte
    exact ⟨hZ hT.symm, htb, hte.trans hno.symm⟩
  have hT2 : no = 0 → td ≠ 0 → (t0 = false ∧ t1 = ⟨#[]⟩ ∧ t2 = ⟨#[]⟩ ∧ t3 = false ∧ t4 = ⟨#[]⟩ ∧ t5 = ⟨#[]⟩) ∧ tb = false ∧ te = td := fun h h2 => by
    have hr : roundB d = false := by
      cases hr : roundB d
      · rfl
      · rw [hr] at htd; exact absurd htd h2
    rw [TurnLf, if_pos (hno ▸ h), turnLf, hr] at hT htb hte
    rw [hr] at htd
    exact ⟨hZ hT.symm, htb, hte.trans htd.symm⟩
  obtain ⟨Lx, hLx⟩ : ∃ l : Lf, l = ((be (sl la), be (sl ld)), (be (sl lb), be (sl lc))) := ⟨_, rfl⟩
  obtain ⟨u0, u1, u2, u3, hU⟩ := rmake23_form (trnP d.toNat Lx.1) (trnP d.toNat Lx.2)
  have hT3 : no = 0 → td = 0 → te = 0 ∧ (∀ W, Calls Tryz.prog 22 #[.agg #[.int .u64 p0, .int .u64 p1, .int .u64 p2, .int .u64 p3], .int .i64 d] W (RetVal (.tuple #[.agg #[.int .u64 u0, .int .u64 u1, .int .u64 u2, .int .u64 u3], .bool tb]) W)) ∧ (tb = true → ∀ W, Calls Tryz.prog 23 #[.agg #[.int .u64 u0, .int .u64 u1, .int .u64 u2, .int .u64 u3]] W (RetVal (.agg #[.bool t0, .string t1, .string t2, .bool t3, .string t4, .string t5]) W)) ∧ (tb = false → t0 = false ∧ t1 = ⟨#[]⟩ ∧ t2 = ⟨#[]⟩ ∧ t3 = false ∧ t4 = ⟨#[]⟩ ∧ t5 = ⟨#[]⟩) := fun h h2 => by
    have hr : roundB d = true := by
      cases hr : roundB d
      · rw [hr] at htd; rw [htd] at h2; exact absurd h2 (by decide)
      · rfl
    have hd := roundB_iff.1 hr
    have hl : AngL Lx := by rw [hLx]; exact leaf_ang (hno ▸ h)
    have hdn : ((d.toNat : Nat) : Int) = d := Int.toNat_of_nonneg (by omega)
    have hA1 := hl.1.trn d.toNat
    have hA2 := hl.2.trn d.toNat
    have he := rmake23_eq _ _ hA1 hA2
    rw [TurnLf, if_pos (hno ▸ h), ← hLx, turnLf, hr, if_pos rfl] at hT htb hte
    by_cases hpq : trnP d.toNat Lx.1 = trnP d.toNat Lx.2
    · rw [if_pos hpq] at hT htb hte he
      refine ⟨hte, fun W => ?_, fun h => absurd (htb.symm.trans h) (by decide), fun _ => hZ hT.symm⟩
      have h3 := rlTurn_any Lx d.toNat W hl (by omega)
      rw [hU, hdn, he] at h3
      rw [hP2 h, ← hLx, htb]
      exact h3
    · rw [if_neg hpq] at hT htb hte he
      have e4 : (.agg #[.int .u64 u0, .int .u64 u1, .int .u64 u2, .int .u64 u3] : Value) = rlV (mkL (trnP d.toNat Lx.1) (trnP d.toNat Lx.2)) := by rw [← hU, he]
      refine ⟨hte, fun W => ?_, fun _ W => ?_, fun h => Bool.noConfusion ((htb.symm.trans h : true = false))⟩
      · have h3 := rlTurn_any Lx d.toNat W hl (by omega)
        rw [hU, hdn, he] at h3
        rw [hP2 h, ← hLx, htb]
        exact h3
      · rw [e4, ← hT]
        exact rlTold_any _ W (mkL_ang hA1 hA2)
  obtain ⟨x1, y1, hs1, hq1⟩ := smallV_form an aa ad
  obtain ⟨x2, y2, hs2, hq2⟩ := smallV_form bn ba bd
  obtain ⟨ok1, hok1⟩ : ∃ c, c = okA an aa ad := ⟨_, rfl⟩
  obtain ⟨ok2, hok2⟩ : ∃ c, c = okA bn ba bd := ⟨_, rfl⟩
  have cOa : Hid (∀ W, Calls Tryz.prog 24 #[.agg #[.bool an, .string aa, .string ad]] W (RetVal (.tuple #[.agg #[.int .u64 (x1 : Int), .int .u64 (y1 : Int)], .bool ok1]) W)) := Lib.hid (fun W => by
    have h := rof_any an aa ad W za1 za2
    rw [hs1, ← hok1] at h; exact h)
  have cOb : Hid (∀ W, Calls Tryz.prog 24 #[.agg #[.bool bn, .string ba, .string bd]] W (RetVal (.tuple #[.agg #[.int .u64 (x2 : Int), .int .u64 (y2 : Int)], .bool ok2]) W)) := Lib.hid (fun W => by
    have h := rof_any bn ba bd W zb1 zb2
    rw [hs2, ← hok2] at h; exact h)
  obtain ⟨n0, n1, n2, n3, n4, n5, hMk⟩ := makeLf_form an aa ad bn ba bd
  obtain ⟨ne, hne⟩ : ∃ c, c = (makeLf an aa ad bn ba bd).2 := ⟨_, rfl⟩
  have cMk : Hid (∀ W, Calls Tryz.prog 25 #[.agg #[.bool an, .string aa, .string ad], .agg #[.bool bn, .string ba, .string bd]] W (RetVal (.tuple #[.agg #[.bool n0, .string n1, .string n2, .bool n3, .string n4, .string n5], .int .i64 ne]) W)) := Lib.hid (fun W => by
    have h := lMake_any an aa ad bn ba bd W za1 za2 zb1 zb2
    rw [hMk] at h
    rw [hne]; exact h)
  obtain ⟨w0, w1, w2, w3, hW4⟩ := rmake23_form (x1, y1) (x2, y2)
  have hZn : (.agg #[.bool n0, .string n1, .string n2, .bool n3, .string n4, .string n5] : Value) = leaf0 → n0 = false ∧ n1 = ⟨#[]⟩ ∧ n2 = ⟨#[]⟩ ∧ n3 = false ∧ n4 = ⟨#[]⟩ ∧ n5 = ⟨#[]⟩ := fun h => agg6 h
  have hM1 : ¬ (ok1 = true ∧ ok2 = true) → (n0 = false ∧ n1 = ⟨#[]⟩ ∧ n2 = ⟨#[]⟩ ∧ n3 = false ∧ n4 = ⟨#[]⟩ ∧ n5 = ⟨#[]⟩) ∧ ne = 210 := fun h => by
    have e : makeLf an aa ad bn ba bd = (leaf0, 210) := by
      unfold makeLf
      rw [← hok1, ← hok2]
      cases ok1
      · rfl
      · cases ok2
        · rfl
        · exact absurd ⟨rfl, rfl⟩ h
    rw [e] at hMk hne
    exact ⟨hZn hMk.symm, hne⟩
  have hM2 : ok1 = true → ok2 = true → (∀ W, Calls Tryz.prog 26 #[.agg #[.int .u64 (x1 : Int), .int .u64 (y1 : Int)], .agg #[.int .u64 (x2 : Int), .int .u64 (y2 : Int)]] W (RetVal (.tuple #[.agg #[.int .u64 w0, .int .u64 w1, .int .u64 w2, .int .u64 w3], .int .i64 ne]) W)) ∧ (ne = 0 → ∀ W, Calls Tryz.prog 23 #[.agg #[.int .u64 w0, .int .u64 w1, .int .u64 w2, .int .u64 w3]] W (RetVal (.agg #[.bool n0, .string n1, .string n2, .bool n3, .string n4, .string n5]) W)) ∧ (ne ≠ 0 → n0 = false ∧ n1 = ⟨#[]⟩ ∧ n2 = ⟨#[]⟩ ∧ n3 = false ∧ n4 = ⟨#[]⟩ ∧ n5 = ⟨#[]⟩) := fun h1 h2 => by
    have g1 := (Ang.of_ok (hok1 ▸ h1)).1
    have g2 := (Ang.of_ok (hok2 ▸ h2)).1
    obtain ⟨e1, e2, -, -⟩ := hq1 (hok1 ▸ h1)
    obtain ⟨e3, e4, -, -⟩ := hq2 (hok2 ▸ h2)
    rw [← e1, ← e2] at g1
    rw [← e3, ← e4] at g2
    have he := rmake23_eq (x1, y1) (x2, y2) g1 g2
    have em : makeLf an aa ad bn ba bd = if (x1, y1) = (x2, y2) then (leaf0, 230) else (leafV (mkL (x1, y1) (x2, y2)), 0) := by
      unfold makeLf
      rw [← hok1, ← hok2, if_pos h1, if_pos h2, ← e1, ← e2, ← e3, ← e4]
    rw [em] at hMk hne
    have hM := fun W => rlMake_any (x1, y1) (x2, y2) W g1 g2
    by_cases hpq : (x1, y1) = (x2, y2)
    · rw [if_pos hpq] at hMk hne he
      refine ⟨fun W => ?_, fun h => absurd (hne.symm.trans h) (by decide), fun _ => hZn hMk.symm⟩
      have h3 := hM W
      rw [hW4, he] at h3
      rw [hne]
      exact h3
    · rw [if_neg hpq] at hMk hne he
      have e5 : (.agg #[.int .u64 w0, .int .u64 w1, .int .u64 w2, .int .u64 w3] : Value) = rlV (mkL (x1, y1) (x2, y2)) := by rw [← hW4, he]
      refine ⟨fun W => ?_, fun _ W => ?_, fun h => absurd hne h⟩
      · have h3 := hM W
        rw [hW4, he] at h3
        rw [hne]
        exact h3
      · rw [e5, ← hMk]
        exact rlTold_any _ W (mkL_ang g1 g2)
  have cAw := Lib.hid (fun W => lawake_any W)
  replace hC1 := Lib.hid hC1
  replace hC2 := Lib.hid hC2
  replace hC3 := Lib.hid hC3
  replace hT1 := Lib.hid hT1
  replace hT2 := Lib.hid hT2
  replace hT3 := Lib.hid hT3
  replace hM1 := Lib.hid hM1
  replace hM2 := Lib.hid hM2
  clear hZn hW4 hne hMk hs1 hs2 hq1 hq2 hok1 hok2 hU hLx hZ agg6 htd htb hte hcb hce hP2 hR2 hT hR hP hno hnt zl1 zl2 zl3 zl4 zm1 zm2 zm3 zm4 za1 za2 zb1 zb2
  have hBW : Below w.heap.size w ((((w.alloc (.cells #[.bool ln, .string la, .string ld, .bool lm, .string lb, .string lc] 38)).alloc (.cells #[.bool mn, .string ma, .string md, .bool mm, .string mb, .string mc] 38)).alloc (.cells #[.bool an, .string aa, .string ad] 26)).alloc (.cells #[.bool bn, .string ba, .string bd] 26)) := (((((Below.refl _ w).alloc (Nat.le_refl _) _).alloc (by simp) _).alloc (by simp; omega) _).alloc (by simp; omega) _)
  have kk0 := ((((Blk.new w 38 #[.bool ln, .string la, .string ld, .bool lm, .string lb, .string lc]).alloc (.cells #[.bool mn, .string ma, .string md, .bool mm, .string mb, .string mc] 38)).alloc (.cells #[.bool an, .string aa, .string ad] 26)).alloc (.cells #[.bool bn, .string ba, .string bd] 26))
  have kk1 := (((Blk.new (w.alloc (.cells #[.bool ln, .string la, .string ld, .bool lm, .string lb, .string lc] 38)) 38 #[.bool mn, .string ma, .string md, .bool mm, .string mb, .string mc]).alloc (.cells #[.bool an, .string aa, .string ad] 26)).alloc (.cells #[.bool bn, .string ba, .string bd] 26))
  simp only [World.size_alloc] at kk1
  have kk2 := ((Blk.new ((w.alloc (.cells #[.bool ln, .string la, .string ld, .bool lm, .string lb, .string lc] 38)).alloc (.cells #[.bool mn, .string ma, .string md, .bool mm, .string mb, .string mc] 38)) 26 #[.bool an, .string aa, .string ad]).alloc (.cells #[.bool bn, .string ba, .string bd] 26))
  simp only [World.size_alloc] at kk2
  have kk3 := (Blk.new (((w.alloc (.cells #[.bool ln, .string la, .string ld, .bool lm, .string lb, .string lc] 38)).alloc (.cells #[.bool mn, .string ma, .string md, .bool mm, .string mb, .string mc] 38)).alloc (.cells #[.bool an, .string aa, .string ad] 26)) 26 #[.bool bn, .string ba, .string bd])
  simp only [World.size_alloc] at kk3
  have K := Lib.hid ((((KeepT.one kk0).snoc kk1).snoc kk2).snoc kk3)
  have hB := Lib.hid hBW
  clear hBW kk0 kk1 kk2 kk3
  go_enter Tryz.func4, Tryz.ntmps4
  go_upto_region 1 with fail
  generalize hW : ((((w.alloc (.cells #[.bool ln, .string la, .string ld, .bool lm, .string lb, .string lc] 38)).alloc (.cells #[.bool mn, .string ma, .string md, .bool mm, .string mb, .string mc] 38)).alloc (.cells #[.bool an, .string aa, .string ad] 26)).alloc (.cells #[.bool bn, .string ba, .string bd] 26)) = v1 at hB K ⊢
  clear hW
  have l0 : v1.cell? ⟨w.heap.size, 0, none⟩ = some (.bool ln) := (K.out.at_ 0 rfl).cell 0
  have l1 : v1.cell? ⟨w.heap.size, 1, none⟩ = some (.string la) := (K.out.at_ 0 rfl).cell 1
  have l2 : v1.cell? ⟨w.heap.size, 2, none⟩ = some (.string ld) := (K.out.at_ 0 rfl).cell 2
  have l3 : v1.cell? ⟨w.heap.size, 3, none⟩ = some (.bool lm) := (K.out.at_ 0 rfl).cell 3
  have l4 : v1.cell? ⟨w.heap.size, 4, none⟩ = some (.string lb) := (K.out.at_ 0 rfl).cell 4
  have l5 : v1.cell? ⟨w.heap.size, 5, none⟩ = some (.string lc) := (K.out.at_ 0 rfl).cell 5
  go_wp2_with fail
  refine (cOf1.out _).mono ?_
  rintro en v2 ⟨rfl, hb⟩
  replace hB := Lib.hid (hB.out.trans (hb.mono hB.out.size))
  replace K := Lib.hid ((K.out.below hb))
  clear l0 l1 l2 l3 l4 l5 hb
  have kn := Blk.new v2 44 #[.int .u64 p0, .int .u64 p1, .int .u64 p2, .int .u64 p3]
  replace K := Lib.hid ((K.out.alloc (.cells #[.int .u64 p0, .int .u64 p1, .int .u64 p2, .int .u64 p3] 44)).snoc kn)
  replace hB := Lib.hid (hB.out.alloc hB.out.size (.cells #[.int .u64 p0, .int .u64 p1, .int .u64 p2, .int .u64 p3] 44))
  clear kn
  go_upto_region 2 with fail
  generalize hW : v2.alloc (.cells #[.int .u64 p0, .int .u64 p1, .int .u64 p2, .int .u64 p3] 44) = v3 at K hB ⊢
  generalize hg : v2.heap.size = ga at K  ⊢
  clear hW hg v2
  have m0 : v3.cell? ⟨w.heap.size + 1, 0, none⟩ = some (.bool mn) := (K.out.at_ 1 rfl).cell 0
  have m1 : v3.cell? ⟨w.heap.size + 1, 1, none⟩ = some (.string ma) := (K.out.at_ 1 rfl).cell 1
  have m2 : v3.cell? ⟨w.heap.size + 1, 2, none⟩ = some (.string md) := (K.out.at_ 1 rfl).cell 2
  have m3 : v3.cell? ⟨w.heap.size + 1, 3, none⟩ = some (.bool mm) := (K.out.at_ 1 rfl).cell 3
  have m4 : v3.cell? ⟨w.heap.size + 1, 4, none⟩ = some (.string mb) := (K.out.at_ 1 rfl).cell 4
  have m5 : v3.cell? ⟨w.heap.size + 1, 5, none⟩ = some (.string mc) := (K.out.at_ 1 rfl).cell 5
  go_wp2_with fail
  refine (cOf2.out _).mono ?_
  rintro en v4 ⟨rfl, hb⟩
  replace hB := Lib.hid (hB.out.trans (hb.mono hB.out.size))
  replace K := Lib.hid ((K.out.below hb))
  clear m0 m1 m2 m3 m4 m5 hb
  have kn := Blk.new v4 44 #[.int .u64 r0, .int .u64 r1, .int .u64 r2, .int .u64 r3]
  replace K := Lib.hid ((K.out.alloc (.cells #[.int .u64 r0, .int .u64 r1, .int .u64 r2, .int .u64 r3] 44)).snoc kn)
  replace hB := Lib.hid (hB.out.alloc hB.out.size (.cells #[.int .u64 r0, .int .u64 r1, .int .u64 r2, .int .u64 r3] 44))
  clear kn
  go_upto_region 3 with fail
  generalize hW : v4.alloc (.cells #[.int .u64 r0, .int .u64 r1, .int .u64 r2, .int .u64 r3] 44) = v5 at K hB ⊢
  generalize hg : v4.heap.size = gb at K  ⊢
  clear hW hg v4
  have l0 : v5.cell? ⟨w.heap.size, 0, none⟩ = some (.bool ln) := (K.out.at_ 0 rfl).cell 0
  have l1 : v5.cell? ⟨w.heap.size, 1, none⟩ = some (.string la) := (K.out.at_ 0 rfl).cell 1
  have l2 : v5.cell? ⟨w.heap.size, 2, none⟩ = some (.string ld) := (K.out.at_ 0 rfl).cell 2
  have l3 : v5.cell? ⟨w.heap.size, 3, none⟩ = some (.bool lm) := (K.out.at_ 0 rfl).cell 3
  have l4 : v5.cell? ⟨w.heap.size, 4, none⟩ = some (.string lb) := (K.out.at_ 0 rfl).cell 4
  have l5 : v5.cell? ⟨w.heap.size, 5, none⟩ = some (.string lc) := (K.out.at_ 0 rfl).cell 5
  go_wp2_with fail
  refine (cChk.out _).mono ?_
  rintro en v6 ⟨rfl, hb⟩
  replace hB := Lib.hid (hB.out.trans (hb.mono hB.out.size))
  replace K := Lib.hid ((K.out.below hb))
  clear l0 l1 l2 l3 l4 l5 hb
  have l0 : v6.cell? ⟨w.heap.size, 0, none⟩ = some (.bool ln) := (K.out.at_ 0 rfl).cell 0
  have l1 : v6.cell? ⟨w.heap.size, 1, none⟩ = some (.string la) := (K.out.at_ 0 rfl).cell 1
  have l2 : v6.cell? ⟨w.heap.size, 2, none⟩ = some (.string ld) := (K.out.at_ 0 rfl).cell 2
  have l3 : v6.cell? ⟨w.heap.size, 3, none⟩ = some (.bool lm) := (K.out.at_ 0 rfl).cell 3
  have l4 : v6.cell? ⟨w.heap.size, 4, none⟩ = some (.string lb) := (K.out.at_ 0 rfl).cell 4
  have l5 : v6.cell? ⟨w.heap.size, 5, none⟩ = some (.string lc) := (K.out.at_ 0 rfl).cell 5
  have m0 : v6.cell? ⟨w.heap.size + 1, 0, none⟩ = some (.bool mn) := (K.out.at_ 1 rfl).cell 0
  have m1 : v6.cell? ⟨w.heap.size + 1, 1, none⟩ = some (.string ma) := (K.out.at_ 1 rfl).cell 1
  have m2 : v6.cell? ⟨w.heap.size + 1, 2, none⟩ = some (.string md) := (K.out.at_ 1 rfl).cell 2
  have m3 : v6.cell? ⟨w.heap.size + 1, 3, none⟩ = some (.bool mm) := (K.out.at_ 1 rfl).cell 3
  have m4 : v6.cell? ⟨w.heap.size + 1, 4, none⟩ = some (.string mb) := (K.out.at_ 1 rfl).cell 4
  have m5 : v6.cell? ⟨w.heap.size + 1, 5, none⟩ = some (.string mc) := (K.out.at_ 1 rfl).cell 5
  go_wp2_with fail
  refine (cCr.out _).mono ?_
  rintro en v7 ⟨rfl, hb⟩
  replace hB := Lib.hid (hB.out.trans (hb.mono hB.out.size))
  replace K := Lib.hid ((K.out.below hb))
  clear l0 l1 l2 l3 l4 l5 m0 m1 m2 m3 m4 m5 hb
  replace K : Hid (KeepT v7 [(w.heap.size, 38, #[.bool ln, .string la, .string ld, .bool lm, .string lb, .string lc]), (w.heap.size + 1, 38, #[.bool mn, .string ma, .string md, .bool mm, .string mb, .string mc]), (w.heap.size + 1 + 1, 26, #[.bool an, .string aa, .string ad]), (w.heap.size + 1 + 1 + 1, 26, #[.bool bn, .string ba, .string bd]), (ga, 44, #[.int .u64 p0, .int .u64 p1, .int .u64 p2, .int .u64 p3]), (gb, 44, #[.int .u64 r0, .int .u64 r1, .int .u64 r2, .int .u64 r3])]) := K
  go_upto_block 0 with fail
  go_cut [15, 16] from 33 to 192 (fun _ _ wx => Hid (KeepT wx [(w.heap.size, 38, #[.bool ln, .string la, .string ld, .bool lm, .string lb, .string lc]), (w.heap.size + 1, 38, #[.bool mn, .string ma, .string md, .bool mm, .string mb, .string mc]), (w.heap.size + 1 + 1, 26, #[.bool an, .string aa, .string ad]), (w.heap.size + 1 + 1 + 1, 26, #[.bool bn, .string ba, .string bd]), (ga, 44, #[.int .u64 p0, .int .u64 p1, .int .u64 p2, .int .u64 p3]), (gb, 44, #[.int .u64 r0, .int .u64 r1, .int .u64 r2, .int .u64 r3])]) ∧ Hid (Below w.heap.size w wx))
  case first =>
    by_cases h0 : no = 0
    case neg =>
      obtain ⟨e1, e2⟩ := hC1.out h0
      replace h0 := Lib.hid h0
      rw [e1, e2]
      have h0b : (no != 0) = true := by simpa using h0.out
      clear e1 e2
      go_wp2_with fail
      go_meet
      case rel => exact ⟨K, hB⟩
    case pos =>
      by_cases h1 : nt = 0
      case neg =>
        obtain ⟨e1, e2⟩ := hC2.out h0 h1
        rw [e1, e2]
        replace h1 := Lib.hid h1
        replace h0 := Lib.hid h0
        have h0b : (no != 0) = false := by simpa using h0.out
        have h1b : (nt != 0) = true := by simpa using h1.out
        clear e1 e2
        go_wp2_with fail
        go_meet
        case rel => exact ⟨K, hB⟩
      case pos =>
        obtain ⟨e1, e2⟩ := hC3.out h0 h1
        replace e2 := Lib.hid e2
        rw [e1]
        replace h1 := Lib.hid h1
        replace h0 := Lib.hid h0
        have h0b : (no != 0) = false := by simpa using h0.out
        have h1b : (nt != 0) = false := by simpa using h1.out
        clear e1
        have p0 : v7.cell? ⟨ga, 0, none⟩ = some (.int .u64 p0) := (K.out.at_ 4 rfl).cell 0
        have p1 : v7.cell? ⟨ga, 1, none⟩ = some (.int .u64 p1) := (K.out.at_ 4 rfl).cell 1
        have p2 : v7.cell? ⟨ga, 2, none⟩ = some (.int .u64 p2) := (K.out.at_ 4 rfl).cell 2
        have p3 : v7.cell? ⟨ga, 3, none⟩ = some (.int .u64 p3) := (K.out.at_ 4 rfl).cell 3
        have r0 : v7.cell? ⟨gb, 0, none⟩ = some (.int .u64 r0) := (K.out.at_ 5 rfl).cell 0
        have r1 : v7.cell? ⟨gb, 1, none⟩ = some (.int .u64 r1) := (K.out.at_ 5 rfl).cell 1
        have r2 : v7.cell? ⟨gb, 2, none⟩ = some (.int .u64 r2) := (K.out.at_ 5 rfl).cell 2
        have r3 : v7.cell? ⟨gb, 3, none⟩ = some (.int .u64 r3) := (K.out.at_ 5 rfl).cell 3
        go_wp2_with fail
        refine (e2.out _).mono ?_
        rintro en v8 ⟨rfl, hb⟩
        replace hB := Lib.hid (hB.out.trans (hb.mono hB.out.size))
        replace K := Lib.hid ((K.out.below hb))
        clear p0 p1 p2 p3 r0 r1 r2 r3 hb
        go_wp2_with fail
        go_meet
        case rel => exact ⟨K, hB⟩
  clear K hB
  obtain ⟨K, hB⟩ := hcut
  have l0 : wc.cell? ⟨w.heap.size, 0, none⟩ = some (.bool ln) := (K.out.at_ 0 rfl).cell 0
  have l1 : wc.cell? ⟨w.heap.size, 1, none⟩ = some (.string la) := (K.out.at_ 0 rfl).cell 1
  have l2 : wc.cell? ⟨w.heap.size, 2, none⟩ = some (.string ld) := (K.out.at_ 0 rfl).cell 2
  have l3 : wc.cell? ⟨w.heap.size, 3, none⟩ = some (.bool lm) := (K.out.at_ 0 rfl).cell 3
  have l4 : wc.cell? ⟨w.heap.size, 4, none⟩ = some (.string lb) := (K.out.at_ 0 rfl).cell 4
  have l5 : wc.cell? ⟨w.heap.size, 5, none⟩ = some (.string lc) := (K.out.at_ 0 rfl).cell 5
  go_wp2_with fail
  refine (cTu.out _).mono ?_
  rintro en v9 ⟨rfl, hb⟩
  replace hB := Lib.hid (hB.out.trans (hb.mono hB.out.size))
  replace K := Lib.hid ((K.out.below hb))
  clear l0 l1 l2 l3 l4 l5 hb
  have kn := Blk.new v9 38 #[.bool t0, .string t1, .string t2, .bool t3, .string t4, .string t5]
  replace K := Lib.hid ((K.out.alloc (.cells #[.bool t0, .string t1, .string t2, .bool t3, .string t4, .string t5] 38)).snoc kn)
  replace hB := Lib.hid (hB.out.alloc hB.out.size (.cells #[.bool t0, .string t1, .string t2, .bool t3, .string t4, .string t5] 38))
  clear kn
  go_upto_block 1 with fail
  generalize hW : v9.alloc (.cells #[.bool t0, .string t1, .string t2, .bool t3, .string t4, .string t5] 38) = v10 at K hB ⊢
  generalize hg : v9.heap.size = gt at K  ⊢
  clear hW hg v9
  replace K : Hid (KeepT v10 [(w.heap.size, 38, #[.bool ln, .string la, .string ld, .bool lm, .string lb, .string lc]), (w.heap.size + 1, 38, #[.bool mn, .string ma, .string md, .bool mm, .string mb, .string mc]), (w.heap.size + 1 + 1, 26, #[.bool an, .string aa, .string ad]), (w.heap.size + 1 + 1 + 1, 26, #[.bool bn, .string ba, .string bd]), (ga, 44, #[.int .u64 p0, .int .u64 p1, .int .u64 p2, .int .u64 p3]), (gb, 44, #[.int .u64 r0, .int .u64 r1, .int .u64 r2, .int .u64 r3]), (gt, 38, #[.bool t0, .string t1, .string t2, .bool t3, .string t4, .string t5])]) := K
  go_cut [18, 19, 20, 21, 22] from 33 to 192 (fun _ _ _ _ _ wx => Hid (KeepT wx [(w.heap.size, 38, #[.bool ln, .string la, .string ld, .bool lm, .string lb, .string lc]), (w.heap.size + 1, 38, #[.bool mn, .string ma, .string md, .bool mm, .string mb, .string mc]), (w.heap.size + 1 + 1, 26, #[.bool an, .string aa, .string ad]), (w.heap.size + 1 + 1 + 1, 26, #[.bool bn, .string ba, .string bd]), (ga, 44, #[.int .u64 p0, .int .u64 p1, .int .u64 p2, .int .u64 p3]), (gb, 44, #[.int .u64 r0, .int .u64 r1, .int .u64 r2, .int .u64 r3]), (gt, 38, #[.bool t0, .string t1, .string t2, .bool t3, .string t4, .string t5])]) ∧ Hid (Below w.heap.size w wx))
  case first =>
    by_cases h0 : no = 0
    case neg =>
      obtain ⟨⟨e0, e1, e2, e3, e4, e5⟩, e6, e7⟩ := hT1.out h0
      replace h0 := Lib.hid h0
      have h0b : (no != 0) = true := by simpa using h0.out
      have K2 := K
      rw [e0, e1, e2, e3, e4, e5] at K2
      rw [e6, e7]
      clear e0 e1 e2 e3 e4 e5 e6 e7
      have z0 : v10.cell? ⟨gt, 0, none⟩ = some (.bool false) := (K2.out.at_ 6 rfl).cell 0
      have z1 : v10.cell? ⟨gt, 1, none⟩ = some (.string ⟨#[]⟩) := (K2.out.at_ 6 rfl).cell 1
      have z2 : v10.cell? ⟨gt, 2, none⟩ = some (.string ⟨#[]⟩) := (K2.out.at_ 6 rfl).cell 2
      have z3 : v10.cell? ⟨gt, 3, none⟩ = some (.bool false) := (K2.out.at_ 6 rfl).cell 3
      have z4 : v10.cell? ⟨gt, 4, none⟩ = some (.string ⟨#[]⟩) := (K2.out.at_ 6 rfl).cell 4
      have z5 : v10.cell? ⟨gt, 5, none⟩ = some (.string ⟨#[]⟩) := (K2.out.at_ 6 rfl).cell 5
      clear K2
      go_wp2_with fail
      go_meet
      case rel => exact ⟨K, hB⟩
    case pos =>
      replace h0 := Lib.hid h0
      have h0b : (no != 0) = false := by simpa using h0.out
      have cTd2 := cTd
      go_wp2_with fail
      refine (cTd2.out _).mono ?_
      rintro en v11 ⟨rfl, hb⟩
      replace hB := Lib.hid (hB.out.trans (hb.mono hB.out.size))
      replace K := Lib.hid ((K.out.below hb))
      clear  hb
      by_cases h1 : td = 0
      case neg =>
        obtain ⟨⟨e0, e1, e2, e3, e4, e5⟩, e6, e7⟩ := hT2.out h0.out h1
        replace h1 := Lib.hid h1
        have h1b : (td != 0) = true := by simpa using h1.out
        have K2 := K
        rw [e0, e1, e2, e3, e4, e5] at K2
        rw [e6, e7]
        clear e0 e1 e2 e3 e4 e5 e6 e7
        have z0 : v11.cell? ⟨gt, 0, none⟩ = some (.bool false) := (K2.out.at_ 6 rfl).cell 0
        have z1 : v11.cell? ⟨gt, 1, none⟩ = some (.string ⟨#[]⟩) := (K2.out.at_ 6 rfl).cell 1
        have z2 : v11.cell? ⟨gt, 2, none⟩ = some (.string ⟨#[]⟩) := (K2.out.at_ 6 rfl).cell 2
        have z3 : v11.cell? ⟨gt, 3, none⟩ = some (.bool false) := (K2.out.at_ 6 rfl).cell 3
        have z4 : v11.cell? ⟨gt, 4, none⟩ = some (.string ⟨#[]⟩) := (K2.out.at_ 6 rfl).cell 4
        have z5 : v11.cell? ⟨gt, 5, none⟩ = some (.string ⟨#[]⟩) := (K2.out.at_ 6 rfl).cell 5
        clear K2
        go_wp2_with fail
        refine (cTd.out _).mono ?_
        rintro en v12 ⟨rfl, hb⟩
        replace hB := Lib.hid (hB.out.trans (hb.mono hB.out.size))
        replace K := Lib.hid ((K.out.below hb))
        clear  hb z0 z1 z2 z3 z4 z5
        go_wp2_with fail
        go_meet
        case rel => exact ⟨K, hB⟩
      case pos =>
        obtain ⟨e0, e1, e2, e3⟩ := hT3.out h0.out h1
        replace e1 := Lib.hid e1
        replace e2 := Lib.hid e2
        replace e3 := Lib.hid e3
        rw [e0]
        replace h1 := Lib.hid h1
        have h1b : (td != 0) = false := by simpa using h1.out
        clear e0
        have p0 : v11.cell? ⟨ga, 0, none⟩ = some (.int .u64 p0) := (K.out.at_ 4 rfl).cell 0
        have p1 : v11.cell? ⟨ga, 1, none⟩ = some (.int .u64 p1) := (K.out.at_ 4 rfl).cell 1
        have p2 : v11.cell? ⟨ga, 2, none⟩ = some (.int .u64 p2) := (K.out.at_ 4 rfl).cell 2
        have p3 : v11.cell? ⟨ga, 3, none⟩ = some (.int .u64 p3) := (K.out.at_ 4 rfl).cell 3
        go_wp2_with fail
        refine (e1.out _).mono ?_
        rintro en v13 ⟨rfl, hb⟩
        replace hB := Lib.hid (hB.out.trans (hb.mono hB.out.size))
        replace K := Lib.hid ((K.out.below hb))
        clear p0 p1 p2 p3 hb
        have kn := Blk.new v13 44 #[.int .u64 u0, .int .u64 u1, .int .u64 u2, .int .u64 u3]
        replace K := Lib.hid ((K.out.alloc (.cells #[.int .u64 u0, .int .u64 u1, .int .u64 u2, .int .u64 u3] 44)).snoc kn)
        replace hB := Lib.hid (hB.out.alloc hB.out.size (.cells #[.int .u64 u0, .int .u64 u1, .int .u64 u2, .int .u64 u3] 44))
        clear kn
        go_upto_region 16 with fail
        generalize hW : v13.alloc (.cells #[.int .u64 u0, .int .u64 u1, .int .u64 u2, .int .u64 u3] 44) = v14 at K hB ⊢
        generalize hg : v13.heap.size = gu at K  ⊢
        clear hW hg v13
        have hw0 : w.heap.size < v14.heap.size := (K.out.at_ 0 rfl).lt
        have hw1 : w.heap.size + 1 < v14.heap.size := (K.out.at_ 1 rfl).lt
        have hw2 : w.heap.size + 1 + 1 < v14.heap.size := (K.out.at_ 2 rfl).lt
        have hw3 : w.heap.size + 1 + 1 + 1 < v14.heap.size := (K.out.at_ 3 rfl).lt
        have hw4 : ga < v14.heap.size := (K.out.at_ 4 rfl).lt
        have hw5 : gb < v14.heap.size := (K.out.at_ 5 rfl).lt
        have hw6 : gt < v14.heap.size := (K.out.at_ 6 rfl).lt
        have hw7 : gu < v14.heap.size := (K.out.at_ 7 rfl).lt
        have kn := Blk.new v14 38 #[.bool false, .string ⟨#[]⟩, .string ⟨#[]⟩, .bool false, .string ⟨#[]⟩, .string ⟨#[]⟩]
        replace K := Lib.hid ((K.out.alloc (.cells #[.bool false, .string ⟨#[]⟩, .string ⟨#[]⟩, .bool false, .string ⟨#[]⟩, .string ⟨#[]⟩] 38)).snoc kn)
        replace hB := Lib.hid (hB.out.alloc hB.out.size (.cells #[.bool false, .string ⟨#[]⟩, .string ⟨#[]⟩, .bool false, .string ⟨#[]⟩, .string ⟨#[]⟩] 38))
        clear kn
        go_upto_region 17 with fail
        generalize hW : v14.alloc (.cells #[.bool false, .string ⟨#[]⟩, .string ⟨#[]⟩, .bool false, .string ⟨#[]⟩, .string ⟨#[]⟩] 38) = v15 at K hB ⊢
        generalize hg : v14.heap.size = gw at K hw0 hw1 hw2 hw3 hw4 hw5 hw6 hw7 ⊢
        clear hW hg v14
        have hwB : w.heap.size ≤ gw := by omega
        cases tb
        case false =>
          obtain ⟨a0, a1, a2, a3, a4, a5⟩ := e3.out rfl
          have K2 := K
          rw [a0, a1, a2, a3, a4, a5] at K2
          clear a0 a1 a2 a3 a4 a5
          have z0 : v15.cell? ⟨gt, 0, none⟩ = some (.bool false) := (K2.out.at_ 6 rfl).cell 0
          have z1 : v15.cell? ⟨gt, 1, none⟩ = some (.string ⟨#[]⟩) := (K2.out.at_ 6 rfl).cell 1
          have z2 : v15.cell? ⟨gt, 2, none⟩ = some (.string ⟨#[]⟩) := (K2.out.at_ 6 rfl).cell 2
          have z3 : v15.cell? ⟨gt, 3, none⟩ = some (.bool false) := (K2.out.at_ 6 rfl).cell 3
          have z4 : v15.cell? ⟨gt, 4, none⟩ = some (.string ⟨#[]⟩) := (K2.out.at_ 6 rfl).cell 4
          have z5 : v15.cell? ⟨gt, 5, none⟩ = some (.string ⟨#[]⟩) := (K2.out.at_ 6 rfl).cell 5
          have y0 : v15.cell? ⟨gw, 0, none⟩ = some (.bool false) := (K2.out.at_ 8 rfl).cell 0
          have y1 : v15.cell? ⟨gw, 1, none⟩ = some (.string ⟨#[]⟩) := (K2.out.at_ 8 rfl).cell 1
          have y2 : v15.cell? ⟨gw, 2, none⟩ = some (.string ⟨#[]⟩) := (K2.out.at_ 8 rfl).cell 2
          have y3 : v15.cell? ⟨gw, 3, none⟩ = some (.bool false) := (K2.out.at_ 8 rfl).cell 3
          have y4 : v15.cell? ⟨gw, 4, none⟩ = some (.string ⟨#[]⟩) := (K2.out.at_ 8 rfl).cell 4
          have y5 : v15.cell? ⟨gw, 5, none⟩ = some (.string ⟨#[]⟩) := (K2.out.at_ 8 rfl).cell 5
          clear K2
          go_wp2_with fail
          go_meet
          case rel => exact ⟨Lib.hid (fun i x hx => K.out i x (take7 hx)), hB⟩
        case true =>
          replace e2 := Lib.hid (e2.out rfl)
          have y0 : v15.cell? ⟨gu, 0, none⟩ = some (.int .u64 u0) := (K.out.at_ 7 rfl).cell 0
          have y1 : v15.cell? ⟨gu, 1, none⟩ = some (.int .u64 u1) := (K.out.at_ 7 rfl).cell 1
          have y2 : v15.cell? ⟨gu, 2, none⟩ = some (.int .u64 u2) := (K.out.at_ 7 rfl).cell 2
          have y3 : v15.cell? ⟨gu, 3, none⟩ = some (.int .u64 u3) := (K.out.at_ 7 rfl).cell 3
          go_wp2_with fail
          refine (e2.out _).mono ?_
          rintro en v16 ⟨rfl, hb⟩
          replace hB := Lib.hid (hB.out.trans (hb.mono hB.out.size))
          replace K := Lib.hid ((K.out.below hb))
          clear  hb y0 y1 y2 y3
          have f0 := (K.out.at_ 8 rfl).frozen 0
          have f1 := (K.out.at_ 8 rfl).frozen 1
          have f2 := (K.out.at_ 8 rfl).frozen 2
          have f3 := (K.out.at_ 8 rfl).frozen 3
          have f4 := (K.out.at_ 8 rfl).frozen 4
          have f5 := (K.out.at_ 8 rfl).frozen 5
          have y0 : v16.cell? ⟨gw, 0, none⟩ = some (.bool false) := (K.out.at_ 8 rfl).cell 0
          have y1 : v16.cell? ⟨gw, 1, none⟩ = some (.string ⟨#[]⟩) := (K.out.at_ 8 rfl).cell 1
          have y2 : v16.cell? ⟨gw, 2, none⟩ = some (.string ⟨#[]⟩) := (K.out.at_ 8 rfl).cell 2
          have y3 : v16.cell? ⟨gw, 3, none⟩ = some (.bool false) := (K.out.at_ 8 rfl).cell 3
          have y4 : v16.cell? ⟨gw, 4, none⟩ = some (.string ⟨#[]⟩) := (K.out.at_ 8 rfl).cell 4
          have y5 : v16.cell? ⟨gw, 5, none⟩ = some (.string ⟨#[]⟩) := (K.out.at_ 8 rfl).cell 5
          obtain ⟨W6, hW6⟩ : ∃ W, W = ((((((v16.setCell ⟨gw, 0, none⟩ (.bool t0)).setCell ⟨gw, 1, none⟩ (.string t1)).setCell ⟨gw, 2, none⟩ (.string t2)).setCell ⟨gw, 3, none⟩ (.bool t3)).setCell ⟨gw, 4, none⟩ (.string t4)).setCell ⟨gw, 5, none⟩ (.string t5)) := ⟨_, rfl⟩
          have kw : Blk W6 gw 38 #[.bool t0, .string t1, .string t2, .bool t3, .string t4, .string t5] := by rw [hW6]; exact (Blk.set_ (Blk.set_ (Blk.set_ (Blk.set_ (Blk.set_ (Blk.set_ (K.out.at_ 8 rfl) 0 (.bool t0)) 1 (.string t1)) 2 (.string t2)) 3 (.bool t3)) 4 (.string t4)) 5 (.string t5))
          have kt : Blk W6 gt 38 #[.bool t0, .string t1, .string t2, .bool t3, .string t4, .string t5] := by rw [hW6]; exact (((((((K.out.at_ 6 rfl).far (p := ⟨gw, 0, none⟩) (Nat.ne_of_lt hw6) _).far (p := ⟨gw, 1, none⟩) (Nat.ne_of_lt hw6) _).far (p := ⟨gw, 2, none⟩) (Nat.ne_of_lt hw6) _).far (p := ⟨gw, 3, none⟩) (Nat.ne_of_lt hw6) _).far (p := ⟨gw, 4, none⟩) (Nat.ne_of_lt hw6) _).far (p := ⟨gw, 5, none⟩) (Nat.ne_of_lt hw6) _)
          have K7 : KeepT W6 [(w.heap.size, 38, #[.bool ln, .string la, .string ld, .bool lm, .string lb, .string lc]), (w.heap.size + 1, 38, #[.bool mn, .string ma, .string md, .bool mm, .string mb, .string mc]), (w.heap.size + 1 + 1, 26, #[.bool an, .string aa, .string ad]), (w.heap.size + 1 + 1 + 1, 26, #[.bool bn, .string ba, .string bd]), (ga, 44, #[.int .u64 p0, .int .u64 p1, .int .u64 p2, .int .u64 p3]), (gb, 44, #[.int .u64 r0, .int .u64 r1, .int .u64 r2, .int .u64 r3]), (gt, 38, #[.bool t0, .string t1, .string t2, .bool t3, .string t4, .string t5])] := by
            rw [hW6]
            exact ((((((KeepT.one (((((((K.out.at_ 0 rfl).far (p := ⟨gw, 0, none⟩) (Nat.ne_of_lt hw0) _).far (p := ⟨gw, 1, none⟩) (Nat.ne_of_lt hw0) _).far (p := ⟨gw, 2, none⟩) (Nat.ne_of_lt hw0) _).far (p := ⟨gw, 3, none⟩) (Nat.ne_of_lt hw0) _).far (p := ⟨gw, 4, none⟩) (Nat.ne_of_lt hw0) _).far (p := ⟨gw, 5, none⟩) (Nat.ne_of_lt hw0) _)).snoc (((((((K.out.at_ 1 rfl).far (p := ⟨gw, 0, none⟩) (Nat.ne_of_lt hw1) _).far (p := ⟨gw, 1, none⟩) (Nat.ne_of_lt hw1) _).far (p := ⟨gw, 2, none⟩) (Nat.ne_of_lt hw1) _).far (p := ⟨gw, 3, none⟩) (Nat.ne_of_lt hw1) _).far (p := ⟨gw, 4, none⟩) (Nat.ne_of_lt hw1) _).far (p := ⟨gw, 5, none⟩) (Nat.ne_of_lt hw1) _)).snoc (((((((K.out.at_ 2 rfl).far (p := ⟨gw, 0, none⟩) (Nat.ne_of_lt hw2) _).far (p := ⟨gw, 1, none⟩) (Nat.ne_of_lt hw2) _).far (p := ⟨gw, 2, none⟩) (Nat.ne_of_lt hw2) _).far (p := ⟨gw, 3, none⟩) (Nat.ne_of_lt hw2) _).far (p := ⟨gw, 4, none⟩) (Nat.ne_of_lt hw2) _).far (p := ⟨gw, 5, none⟩) (Nat.ne_of_lt hw2) _)).snoc (((((((K.out.at_ 3 rfl).far (p := ⟨gw, 0, none⟩) (Nat.ne_of_lt hw3) _).far (p := ⟨gw, 1, none⟩) (Nat.ne_of_lt hw3) _).far (p := ⟨gw, 2, none⟩) (Nat.ne_of_lt hw3) _).far (p := ⟨gw, 3, none⟩) (Nat.ne_of_lt hw3) _).far (p := ⟨gw, 4, none⟩) (Nat.ne_of_lt hw3) _).far (p := ⟨gw, 5, none⟩) (Nat.ne_of_lt hw3) _)).snoc (((((((K.out.at_ 4 rfl).far (p := ⟨gw, 0, none⟩) (Nat.ne_of_lt hw4) _).far (p := ⟨gw, 1, none⟩) (Nat.ne_of_lt hw4) _).far (p := ⟨gw, 2, none⟩) (Nat.ne_of_lt hw4) _).far (p := ⟨gw, 3, none⟩) (Nat.ne_of_lt hw4) _).far (p := ⟨gw, 4, none⟩) (Nat.ne_of_lt hw4) _).far (p := ⟨gw, 5, none⟩) (Nat.ne_of_lt hw4) _)).snoc (((((((K.out.at_ 5 rfl).far (p := ⟨gw, 0, none⟩) (Nat.ne_of_lt hw5) _).far (p := ⟨gw, 1, none⟩) (Nat.ne_of_lt hw5) _).far (p := ⟨gw, 2, none⟩) (Nat.ne_of_lt hw5) _).far (p := ⟨gw, 3, none⟩) (Nat.ne_of_lt hw5) _).far (p := ⟨gw, 4, none⟩) (Nat.ne_of_lt hw5) _).far (p := ⟨gw, 5, none⟩) (Nat.ne_of_lt hw5) _)).snoc (((((((K.out.at_ 6 rfl).far (p := ⟨gw, 0, none⟩) (Nat.ne_of_lt hw6) _).far (p := ⟨gw, 1, none⟩) (Nat.ne_of_lt hw6) _).far (p := ⟨gw, 2, none⟩) (Nat.ne_of_lt hw6) _).far (p := ⟨gw, 3, none⟩) (Nat.ne_of_lt hw6) _).far (p := ⟨gw, 4, none⟩) (Nat.ne_of_lt hw6) _).far (p := ⟨gw, 5, none⟩) (Nat.ne_of_lt hw6) _)
          have hB7 : Below w.heap.size w W6 := by rw [hW6]; exact ((((((hB.out.setCell (p := ⟨gw, 0, none⟩) hwB _).setCell (p := ⟨gw, 1, none⟩) hwB _).setCell (p := ⟨gw, 2, none⟩) hwB _).setCell (p := ⟨gw, 3, none⟩) hwB _).setCell (p := ⟨gw, 4, none⟩) hwB _).setCell (p := ⟨gw, 5, none⟩) hwB _)
          replace kw := Lib.hid kw
          replace kt := Lib.hid kt
          replace K7 := Lib.hid K7
          replace hB7 := Lib.hid hB7
          clear K hB
          go_upto_region 19 with fail
          rw [← hW6]
          clear hW6 y0 f0 y1 f1 y2 f2 y3 f3 y4 f4 y5 f5
          have t_0 : W6.cell? ⟨gt, 0, none⟩ = some (.bool t0) := kt.out.cell 0
          have w_0 : W6.cell? ⟨gw, 0, none⟩ = some (.bool t0) := kw.out.cell 0
          have t_1 : W6.cell? ⟨gt, 1, none⟩ = some (.string t1) := kt.out.cell 1
          have w_1 : W6.cell? ⟨gw, 1, none⟩ = some (.string t1) := kw.out.cell 1
          have t_2 : W6.cell? ⟨gt, 2, none⟩ = some (.string t2) := kt.out.cell 2
          have w_2 : W6.cell? ⟨gw, 2, none⟩ = some (.string t2) := kw.out.cell 2
          have t_3 : W6.cell? ⟨gt, 3, none⟩ = some (.bool t3) := kt.out.cell 3
          have w_3 : W6.cell? ⟨gw, 3, none⟩ = some (.bool t3) := kw.out.cell 3
          have t_4 : W6.cell? ⟨gt, 4, none⟩ = some (.string t4) := kt.out.cell 4
          have w_4 : W6.cell? ⟨gw, 4, none⟩ = some (.string t4) := kw.out.cell 4
          have t_5 : W6.cell? ⟨gt, 5, none⟩ = some (.string t5) := kt.out.cell 5
          have w_5 : W6.cell? ⟨gw, 5, none⟩ = some (.string t5) := kw.out.cell 5
          clear kw kt
          go_wp2_with fail
          go_meet
          case rel => exact ⟨K7, hB7⟩
  clear K hB
  obtain ⟨K, hB⟩ := hcut
  have ca0 : wc.cell? ⟨w.heap.size + 1 + 1, 0, none⟩ = some (.bool an) := (K.out.at_ 2 rfl).cell 0
  have ca1 : wc.cell? ⟨w.heap.size + 1 + 1, 1, none⟩ = some (.string aa) := (K.out.at_ 2 rfl).cell 1
  have ca2 : wc.cell? ⟨w.heap.size + 1 + 1, 2, none⟩ = some (.string ad) := (K.out.at_ 2 rfl).cell 2
  go_wp2_with fail
  refine (cOa.out _).mono ?_
  rintro en v17 ⟨rfl, hb⟩
  replace hB := Lib.hid (hB.out.trans (hb.mono hB.out.size))
  replace K := Lib.hid ((K.out.below hb))
  clear ca0 ca1 ca2 hb
  have kn := Blk.new v17 42 #[.int .u64 (x1 : Int), .int .u64 (y1 : Int)]
  replace K := Lib.hid ((K.out.alloc (.cells #[.int .u64 (x1 : Int), .int .u64 (y1 : Int)] 42)).snoc kn)
  replace hB := Lib.hid (hB.out.alloc hB.out.size (.cells #[.int .u64 (x1 : Int), .int .u64 (y1 : Int)] 42))
  clear kn
  go_upto_region 28 with fail
  generalize hW : v17.alloc (.cells #[.int .u64 (x1 : Int), .int .u64 (y1 : Int)] 42) = v18 at K hB ⊢
  generalize hg : v17.heap.size = gx at K  ⊢
  clear hW hg v17
  have cb_0 : v18.cell? ⟨w.heap.size + 1 + 1 + 1, 0, none⟩ = some (.bool bn) := (K.out.at_ 3 rfl).cell 0
  have cb_1 : v18.cell? ⟨w.heap.size + 1 + 1 + 1, 1, none⟩ = some (.string ba) := (K.out.at_ 3 rfl).cell 1
  have cb_2 : v18.cell? ⟨w.heap.size + 1 + 1 + 1, 2, none⟩ = some (.string bd) := (K.out.at_ 3 rfl).cell 2
  go_wp2_with fail
  refine (cOb.out _).mono ?_
  rintro en v19 ⟨rfl, hb⟩
  replace hB := Lib.hid (hB.out.trans (hb.mono hB.out.size))
  replace K := Lib.hid ((K.out.below hb))
  clear cb_0 cb_1 cb_2 hb
  have kn := Blk.new v19 42 #[.int .u64 (x2 : Int), .int .u64 (y2 : Int)]
  replace K := Lib.hid ((K.out.alloc (.cells #[.int .u64 (x2 : Int), .int .u64 (y2 : Int)] 42)).snoc kn)
  replace hB := Lib.hid (hB.out.alloc hB.out.size (.cells #[.int .u64 (x2 : Int), .int .u64 (y2 : Int)] 42))
  clear kn
  go_upto_region 29 with fail
  generalize hW : v19.alloc (.cells #[.int .u64 (x2 : Int), .int .u64 (y2 : Int)] 42) = v20 at K hB ⊢
  generalize hg : v19.heap.size = gy at K  ⊢
  clear hW hg v19
  have ca0 : v20.cell? ⟨w.heap.size + 1 + 1, 0, none⟩ = some (.bool an) := (K.out.at_ 2 rfl).cell 0
  have ca1 : v20.cell? ⟨w.heap.size + 1 + 1, 1, none⟩ = some (.string aa) := (K.out.at_ 2 rfl).cell 1
  have ca2 : v20.cell? ⟨w.heap.size + 1 + 1, 2, none⟩ = some (.string ad) := (K.out.at_ 2 rfl).cell 2
  have cb_0 : v20.cell? ⟨w.heap.size + 1 + 1 + 1, 0, none⟩ = some (.bool bn) := (K.out.at_ 3 rfl).cell 0
  have cb_1 : v20.cell? ⟨w.heap.size + 1 + 1 + 1, 1, none⟩ = some (.string ba) := (K.out.at_ 3 rfl).cell 1
  have cb_2 : v20.cell? ⟨w.heap.size + 1 + 1 + 1, 2, none⟩ = some (.string bd) := (K.out.at_ 3 rfl).cell 2
  go_wp2_with fail
  refine (cMk.out _).mono ?_
  rintro en v21 ⟨rfl, hb⟩
  replace hB := Lib.hid (hB.out.trans (hb.mono hB.out.size))
  replace K := Lib.hid ((K.out.below hb))
  clear ca0 ca1 ca2 cb_0 cb_1 cb_2 hb
  have kn := Blk.new v21 38 #[.bool n0, .string n1, .string n2, .bool n3, .string n4, .string n5]
  replace K := Lib.hid ((K.out.alloc (.cells #[.bool n0, .string n1, .string n2, .bool n3, .string n4, .string n5] 38)).snoc kn)
  replace hB := Lib.hid (hB.out.alloc hB.out.size (.cells #[.bool n0, .string n1, .string n2, .bool n3, .string n4, .string n5] 38))
  clear kn
  go_upto_region 30 with fail
  generalize hW : v21.alloc (.cells #[.bool n0, .string n1, .string n2, .bool n3, .string n4, .string n5] 38) = v22 at K hB ⊢
  generalize hg : v21.heap.size = gn at K  ⊢
  clear hW hg v21
  cases ok1
  case false =>
    obtain ⟨⟨e0, e1, e2, e3, e4, e5⟩, e6⟩ := hM1.out (by simp)
    have K2 := K
    rw [e0, e1, e2, e3, e4, e5] at K2
    rw [e6]
    clear e0 e1 e2 e3 e4 e5 e6
    have z0 : v22.cell? ⟨gn, 0, none⟩ = some (.bool false) := (K2.out.at_ 9 rfl).cell 0
    have z1 : v22.cell? ⟨gn, 1, none⟩ = some (.string ⟨#[]⟩) := (K2.out.at_ 9 rfl).cell 1
    have z2 : v22.cell? ⟨gn, 2, none⟩ = some (.string ⟨#[]⟩) := (K2.out.at_ 9 rfl).cell 2
    have z3 : v22.cell? ⟨gn, 3, none⟩ = some (.bool false) := (K2.out.at_ 9 rfl).cell 3
    have z4 : v22.cell? ⟨gn, 4, none⟩ = some (.string ⟨#[]⟩) := (K2.out.at_ 9 rfl).cell 4
    have z5 : v22.cell? ⟨gn, 5, none⟩ = some (.string ⟨#[]⟩) := (K2.out.at_ 9 rfl).cell 5
    clear K2
    go_wp2_with fail
    refine (cAw.out _).mono ?_
    rintro en v23 ⟨rfl, hb⟩
    replace hB := Lib.hid (hB.out.trans (hb.mono hB.out.size))
    replace K := Lib.hid ((K.out.below hb))
    clear  hb
    go_wp2_with fail
    go_ret
    exact ⟨rfl, hB.out⟩
  case true =>
    cases ok2
    case false =>
      obtain ⟨⟨e0, e1, e2, e3, e4, e5⟩, e6⟩ := hM1.out (by simp)
      have K2 := K
      rw [e0, e1, e2, e3, e4, e5] at K2
      rw [e6]
      clear e0 e1 e2 e3 e4 e5 e6
      have z0 : v22.cell? ⟨gn, 0, none⟩ = some (.bool false) := (K2.out.at_ 9 rfl).cell 0
      have z1 : v22.cell? ⟨gn, 1, none⟩ = some (.string ⟨#[]⟩) := (K2.out.at_ 9 rfl).cell 1
      have z2 : v22.cell? ⟨gn, 2, none⟩ = some (.string ⟨#[]⟩) := (K2.out.at_ 9 rfl).cell 2
      have z3 : v22.cell? ⟨gn, 3, none⟩ = some (.bool false) := (K2.out.at_ 9 rfl).cell 3
      have z4 : v22.cell? ⟨gn, 4, none⟩ = some (.string ⟨#[]⟩) := (K2.out.at_ 9 rfl).cell 4
      have z5 : v22.cell? ⟨gn, 5, none⟩ = some (.string ⟨#[]⟩) := (K2.out.at_ 9 rfl).cell 5
      clear K2
      go_wp2_with fail
      refine (cAw.out _).mono ?_
      rintro en v24 ⟨rfl, hb⟩
      replace hB := Lib.hid (hB.out.trans (hb.mono hB.out.size))
      replace K := Lib.hid ((K.out.below hb))
      clear  hb
      go_wp2_with fail
      go_ret
      exact ⟨rfl, hB.out⟩
    case true =>
      obtain ⟨e1, e2, e3⟩ := hM2.out rfl rfl
      replace e1 := Lib.hid e1
      replace e2 := Lib.hid e2
      replace e3 := Lib.hid e3
      have cx0 : v22.cell? ⟨gx, 0, none⟩ = some (.int .u64 (x1 : Int)) := (K.out.at_ 7 rfl).cell 0
      have cx1 : v22.cell? ⟨gx, 1, none⟩ = some (.int .u64 (y1 : Int)) := (K.out.at_ 7 rfl).cell 1
      have cy0 : v22.cell? ⟨gy, 0, none⟩ = some (.int .u64 (x2 : Int)) := (K.out.at_ 8 rfl).cell 0
      have cy1 : v22.cell? ⟨gy, 1, none⟩ = some (.int .u64 (y2 : Int)) := (K.out.at_ 8 rfl).cell 1
      go_wp2_with fail
      refine (e1.out _).mono ?_
      rintro en v25 ⟨rfl, hb⟩
      replace hB := Lib.hid (hB.out.trans (hb.mono hB.out.size))
      replace K := Lib.hid ((K.out.below hb))
      clear cx0 cx1 cy0 cy1 hb
      have kn := Blk.new v25 44 #[.int .u64 w0, .int .u64 w1, .int .u64 w2, .int .u64 w3]
      replace K := Lib.hid ((K.out.alloc (.cells #[.int .u64 w0, .int .u64 w1, .int .u64 w2, .int .u64 w3] 44)).snoc kn)
      replace hB := Lib.hid (hB.out.alloc hB.out.size (.cells #[.int .u64 w0, .int .u64 w1, .int .u64 w2, .int .u64 w3] 44))
      clear kn
      go_upto_region 33 with fail
      generalize hW : v25.alloc (.cells #[.int .u64 w0, .int .u64 w1, .int .u64 w2, .int .u64 w3] 44) = v26 at K hB ⊢
      generalize hg : v25.heap.size = gW at K  ⊢
      clear hW hg v25
      have hwn : gn < v26.heap.size := (K.out.at_ 9 rfl).lt
      have hwB0 : w.heap.size ≤ v26.heap.size := hB.out.size
      have kn := Blk.new v26 38 #[.bool false, .string ⟨#[]⟩, .string ⟨#[]⟩, .bool false, .string ⟨#[]⟩, .string ⟨#[]⟩]
      replace K := Lib.hid ((K.out.alloc (.cells #[.bool false, .string ⟨#[]⟩, .string ⟨#[]⟩, .bool false, .string ⟨#[]⟩, .string ⟨#[]⟩] 38)).snoc kn)
      replace hB := Lib.hid (hB.out.alloc hB.out.size (.cells #[.bool false, .string ⟨#[]⟩, .string ⟨#[]⟩, .bool false, .string ⟨#[]⟩, .string ⟨#[]⟩] 38))
      clear kn
      go_upto_region 34 with fail
      generalize hW : v26.alloc (.cells #[.bool false, .string ⟨#[]⟩, .string ⟨#[]⟩, .bool false, .string ⟨#[]⟩, .string ⟨#[]⟩] 38) = v27 at K hB ⊢
      generalize hg : v26.heap.size = gZ at K hwn hwB0 ⊢
      clear hW hg v26
      have hwB : w.heap.size ≤ gZ := hwB0
      by_cases h1 : ne = 0
      case neg =>
        obtain ⟨a0, a1, a2, a3, a4, a5⟩ := e3.out h1
        replace h1 := Lib.hid h1
        have h1b : (ne == 0) = false := by simpa using h1.out
        have K2 := K
        rw [a0, a1, a2, a3, a4, a5] at K2
        clear a0 a1 a2 a3 a4 a5
        have z0 : v27.cell? ⟨gn, 0, none⟩ = some (.bool false) := (K2.out.at_ 9 rfl).cell 0
        have y0 : v27.cell? ⟨gZ, 0, none⟩ = some (.bool false) := (K2.out.at_ 11 rfl).cell 0
        have z1 : v27.cell? ⟨gn, 1, none⟩ = some (.string ⟨#[]⟩) := (K2.out.at_ 9 rfl).cell 1
        have y1 : v27.cell? ⟨gZ, 1, none⟩ = some (.string ⟨#[]⟩) := (K2.out.at_ 11 rfl).cell 1
        have z2 : v27.cell? ⟨gn, 2, none⟩ = some (.string ⟨#[]⟩) := (K2.out.at_ 9 rfl).cell 2
        have y2 : v27.cell? ⟨gZ, 2, none⟩ = some (.string ⟨#[]⟩) := (K2.out.at_ 11 rfl).cell 2
        have z3 : v27.cell? ⟨gn, 3, none⟩ = some (.bool false) := (K2.out.at_ 9 rfl).cell 3
        have y3 : v27.cell? ⟨gZ, 3, none⟩ = some (.bool false) := (K2.out.at_ 11 rfl).cell 3
        have z4 : v27.cell? ⟨gn, 4, none⟩ = some (.string ⟨#[]⟩) := (K2.out.at_ 9 rfl).cell 4
        have y4 : v27.cell? ⟨gZ, 4, none⟩ = some (.string ⟨#[]⟩) := (K2.out.at_ 11 rfl).cell 4
        have z5 : v27.cell? ⟨gn, 5, none⟩ = some (.string ⟨#[]⟩) := (K2.out.at_ 9 rfl).cell 5
        have y5 : v27.cell? ⟨gZ, 5, none⟩ = some (.string ⟨#[]⟩) := (K2.out.at_ 11 rfl).cell 5
        clear K2
        go_wp2_with fail
        refine (cAw.out _).mono ?_
        rintro en v28 ⟨rfl, hb⟩
        replace hB := Lib.hid (hB.out.trans (hb.mono hB.out.size))
        replace K := Lib.hid ((K.out.below hb))
        clear  hb
        go_wp2_with fail
        go_ret
        exact ⟨rfl, hB.out⟩
      case pos =>
        replace e2 := Lib.hid (e2.out h1)
        replace h1 := Lib.hid h1
        have h1b : (ne == 0) = true := by simpa using h1.out
        have y0 : v27.cell? ⟨gW, 0, none⟩ = some (.int .u64 w0) := (K.out.at_ 10 rfl).cell 0
        have y1 : v27.cell? ⟨gW, 1, none⟩ = some (.int .u64 w1) := (K.out.at_ 10 rfl).cell 1
        have y2 : v27.cell? ⟨gW, 2, none⟩ = some (.int .u64 w2) := (K.out.at_ 10 rfl).cell 2
        have y3 : v27.cell? ⟨gW, 3, none⟩ = some (.int .u64 w3) := (K.out.at_ 10 rfl).cell 3
        go_wp2_with fail
        refine (e2.out _).mono ?_
        rintro en v29 ⟨rfl, hb⟩
        replace hB := Lib.hid (hB.out.trans (hb.mono hB.out.size))
        replace K := Lib.hid ((K.out.below hb))
        clear  hb y0 y1 y2 y3
        have f0 := (K.out.at_ 11 rfl).frozen 0
        have f1 := (K.out.at_ 11 rfl).frozen 1
        have f2 := (K.out.at_ 11 rfl).frozen 2
        have f3 := (K.out.at_ 11 rfl).frozen 3
        have f4 := (K.out.at_ 11 rfl).frozen 4
        have f5 := (K.out.at_ 11 rfl).frozen 5
        have y0 : v29.cell? ⟨gZ, 0, none⟩ = some (.bool false) := (K.out.at_ 11 rfl).cell 0
        have y1 : v29.cell? ⟨gZ, 1, none⟩ = some (.string ⟨#[]⟩) := (K.out.at_ 11 rfl).cell 1
        have y2 : v29.cell? ⟨gZ, 2, none⟩ = some (.string ⟨#[]⟩) := (K.out.at_ 11 rfl).cell 2
        have y3 : v29.cell? ⟨gZ, 3, none⟩ = some (.bool false) := (K.out.at_ 11 rfl).cell 3
        have y4 : v29.cell? ⟨gZ, 4, none⟩ = some (.string ⟨#[]⟩) := (K.out.at_ 11 rfl).cell 4
        have y5 : v29.cell? ⟨gZ, 5, none⟩ = some (.string ⟨#[]⟩) := (K.out.at_ 11 rfl).cell 5
        obtain ⟨W6, hW6⟩ : ∃ W, W = ((((((v29.setCell ⟨gZ, 0, none⟩ (.bool n0)).setCell ⟨gZ, 1, none⟩ (.string n1)).setCell ⟨gZ, 2, none⟩ (.string n2)).setCell ⟨gZ, 3, none⟩ (.bool n3)).setCell ⟨gZ, 4, none⟩ (.string n4)).setCell ⟨gZ, 5, none⟩ (.string n5)) := ⟨_, rfl⟩
        have kw : Blk W6 gZ 38 #[.bool n0, .string n1, .string n2, .bool n3, .string n4, .string n5] := by rw [hW6]; exact (Blk.set_ (Blk.set_ (Blk.set_ (Blk.set_ (Blk.set_ (Blk.set_ (K.out.at_ 11 rfl) 0 (.bool n0)) 1 (.string n1)) 2 (.string n2)) 3 (.bool n3)) 4 (.string n4)) 5 (.string n5))
        have kt : Blk W6 gn 38 #[.bool n0, .string n1, .string n2, .bool n3, .string n4, .string n5] := by rw [hW6]; exact (((((((K.out.at_ 9 rfl).far (p := ⟨gZ, 0, none⟩) (Nat.ne_of_lt hwn) _).far (p := ⟨gZ, 1, none⟩) (Nat.ne_of_lt hwn) _).far (p := ⟨gZ, 2, none⟩) (Nat.ne_of_lt hwn) _).far (p := ⟨gZ, 3, none⟩) (Nat.ne_of_lt hwn) _).far (p := ⟨gZ, 4, none⟩) (Nat.ne_of_lt hwn) _).far (p := ⟨gZ, 5, none⟩) (Nat.ne_of_lt hwn) _)
        have hB7 : Below w.heap.size w W6 := by rw [hW6]; exact ((((((hB.out.setCell (p := ⟨gZ, 0, none⟩) hwB _).setCell (p := ⟨gZ, 1, none⟩) hwB _).setCell (p := ⟨gZ, 2, none⟩) hwB _).setCell (p := ⟨gZ, 3, none⟩) hwB _).setCell (p := ⟨gZ, 4, none⟩) hwB _).setCell (p := ⟨gZ, 5, none⟩) hwB _)
        replace kw := Lib.hid kw
        replace kt := Lib.hid kt
        replace hB7 := Lib.hid hB7
        clear K hB
        go_upto_region 36 with fail
        rw [← hW6]
        clear hW6 y0 f0 y1 f1 y2 f2 y3 f3 y4 f4 y5 f5
        have t_0 : W6.cell? ⟨gn, 0, none⟩ = some (.bool n0) := kt.out.cell 0
        have w_0 : W6.cell? ⟨gZ, 0, none⟩ = some (.bool n0) := kw.out.cell 0
        have t_1 : W6.cell? ⟨gn, 1, none⟩ = some (.string n1) := kt.out.cell 1
        have w_1 : W6.cell? ⟨gZ, 1, none⟩ = some (.string n1) := kw.out.cell 1
        have t_2 : W6.cell? ⟨gn, 2, none⟩ = some (.string n2) := kt.out.cell 2
        have w_2 : W6.cell? ⟨gZ, 2, none⟩ = some (.string n2) := kw.out.cell 2
        have t_3 : W6.cell? ⟨gn, 3, none⟩ = some (.bool n3) := kt.out.cell 3
        have w_3 : W6.cell? ⟨gZ, 3, none⟩ = some (.bool n3) := kw.out.cell 3
        have t_4 : W6.cell? ⟨gn, 4, none⟩ = some (.string n4) := kt.out.cell 4
        have w_4 : W6.cell? ⟨gZ, 4, none⟩ = some (.string n4) := kw.out.cell 4
        have t_5 : W6.cell? ⟨gn, 5, none⟩ = some (.string n5) := kt.out.cell 5
        have w_5 : W6.cell? ⟨gZ, 5, none⟩ = some (.string n5) := kw.out.cell 5
        clear kw kt
        go_wp2_with fail
        refine (cAw.out _).mono ?_
        rintro en W7 ⟨rfl, hb⟩
        replace hB7 := Lib.hid (hB7.out.trans (hb.mono hB7.out.size))
        clear hb
        go_wp2_with fail
        go_ret
        exact ⟨rfl, hB7.out⟩
end Go.Proofs.YtoaggmegmgdgbaaGreat
