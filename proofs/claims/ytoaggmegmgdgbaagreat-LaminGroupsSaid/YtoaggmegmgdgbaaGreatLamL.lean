import Derived.Test.YtoaggmegmgdgbaaGreatGapC
import Derived.Test.YtoaggmegmgdgbaaGreatRefA
namespace Go.Proofs.YtoaggmegmgdgbaaGreat
open Go.RowKit Go.Sort
set_option maxRecDepth 100000 in
set_option maxHeartbeats 1000000 in
theorem lof_any (n d : Nat) (w : World) (h : Ang (n, d)) :
    Calls Tryz.prog 53 #[.int .i64 (n : Int), .int .i64 (d : Int)] w (RetVal (.agg #[.bool false, .string (natS n), .string (natS d)]) w) := by
  have hM : Hid (∀ W, Calls Tryz.prog 97 #[.int .i64 (n : Int), .int .i64 (d : Int)] W (RetVal (.tuple #[.agg #[.int .u64 (n : Int), .int .u64 (d : Int)], .int .i64 0]) W)) := Lib.hid (fun W => by
    have h1 := rmake_any (n : Int) (d : Int) W
    obtain ⟨hg, hlt, hle⟩ := h
    simp only at hg hlt hle
    have e0 : (n : Int) % (d : Int) = (n : Int) := Int.emod_eq_of_lt (by omega) (by omega)
    have e : rmakeV (n : Int) (d : Int) = .tuple #[.agg #[.int .u64 (n : Int), .int .u64 (d : Int)], .int .i64 0] := by
      rw [rmakeV, if_pos (by omega), e0, Int.toNat_natCast, Int.toNat_natCast, hg, Nat.div_one, Nat.div_one]
    rwa [e] at h1)
  have hR : Hid (∀ W, Calls Tryz.prog 72 #[.agg #[.int .u64 (n : Int), .int .u64 (d : Int)]] W (RetVal (.agg #[.bool false, .string (natS n), .string (natS d)]) W)) := Lib.hid (fun W => rratio_any n d W (by have := h.2.1; have := h.2.2; simp only at *; omega) (by have := h.2.2; simp only at *; omega))
  have k0 := Blk.new w 26 #[.bool false, .string ⟨#[]⟩, .string ⟨#[]⟩]
  have hB : Below w.heap.size w (w.alloc (.cells #[.bool false, .string ⟨#[]⟩, .string ⟨#[]⟩] 26)) := (Below.refl _ w).alloc (Nat.le_refl _) _
  replace k0 := Lib.hid k0
  replace hB := Lib.hid hB
  obtain ⟨a1, ha1⟩ : ∃ a, a = natS n := ⟨_, rfl⟩
  obtain ⟨d1, hd1⟩ : ∃ a, a = natS d := ⟨_, rfl⟩
  rw [← ha1, ← hd1] at hR ⊢
  clear ha1 hd1 h
  go_enter Tryz.func53, Tryz.ntmps53
  go_upto_region 1 with fail
  generalize hW : w.alloc (.cells #[.bool false, .string ⟨#[]⟩, .string ⟨#[]⟩] 26) = w1 at k0 hB ⊢
  generalize hg : w.heap.size = g at k0 ⊢
  have hgw : w.heap.size ≤ g := by omega
  replace hg := Lib.hid hg
  clear hW
  go_wp2_with fail
  refine (hM.out _).mono ?_
  rintro en w2 ⟨rfl, hb⟩
  have k2 := Lib.hid (Blk.below k0.out hb)
  have hB2 := Lib.hid (hB.out.trans (hb.mono hB.out.size))
  clear hb hM k0 hB
  go_upto_region 2 with fail
  have q1 := Blk.new w2 42 #[.int .u64 (n : Int), .int .u64 (d : Int)]
  have k3 := Blk.alloc k2.out (.cells #[.int .u64 (n : Int), .int .u64 (d : Int)] 42)
  have hB3 := hB2.out.alloc hB2.out.size (.cells #[.int .u64 (n : Int), .int .u64 (d : Int)] 42)
  generalize hW : w2.alloc (.cells #[.int .u64 (n : Int), .int .u64 (d : Int)] 42) = w3 at q1 k3 hB3 ⊢
  generalize hg2 : w2.heap.size = g2 at q1 ⊢
  clear hW hg2 k2 hB2
  have b0 : w3.cell? ⟨g2, 0, none⟩ = some (.int .u64 (n : Int)) := q1.cell 0
  have b1 : w3.cell? ⟨g2, 1, none⟩ = some (.int .u64 (d : Int)) := q1.cell 1
  replace k3 := Lib.hid k3
  replace hB3 := Lib.hid hB3
  clear q1
  go_wp2_with fail
  refine (hR.out _).mono ?_
  rintro en w4 ⟨rfl, hb⟩
  have k4 := Blk.below k3.out hb
  have r0 : w4.cell? ⟨g, 0, none⟩ = some (.bool false) := k4.cell 0
  have r1 : w4.cell? ⟨g, 1, none⟩ = some (.string ⟨#[]⟩) := k4.cell 1
  have r2 : w4.cell? ⟨g, 2, none⟩ = some (.string ⟨#[]⟩) := k4.cell 2
  have f0 := k4.frozen 0
  have f1 := k4.frozen 1
  have f2 := k4.frozen 2
  have k5 := Lib.hid (((k4.set_ 0 (.bool false)).set_ 1 (.string a1)).set_ 2 (.string d1))
  have hB4 := hB3.out.trans (hb.mono hB3.out.size)
  have hB5 := Lib.hid (((hB4.setCell (p := ⟨g, 0, none⟩) hgw (.bool false)).setCell (p := ⟨g, 1, none⟩) hgw (.string a1)).setCell (p := ⟨g, 2, none⟩) hgw (.string d1))
  clear hb hR k3 hB3 hB4 k4 b0 b1
  go_wp2_with fail
  have q0 := k5.out.cell 0
  have q1 := k5.out.cell 1
  have q2 := k5.out.cell 2
  refine bodyPost_ret (v := .agg #[.bool false, .string a1, .string d1]) (by simp [results, Tryz.results53, go_sem, q0, q1, q2]) rfl ⟨rfl, hB5.out⟩
set_option maxRecDepth 100000 in
set_option maxHeartbeats 4000000 in
theorem lawake_any (w : World) : Calls Tryz.prog 11 #[] w (RetVal (.bool true) w) := by
  obtain ⟨la, hla⟩ : ∃ l : Lf, l = ((1, 3), (2, 3)) := ⟨_, rfl⟩
  obtain ⟨lb, hlb⟩ : ∃ l : Lf, l = ((1, 7), (1, 2)) := ⟨_, rfl⟩
  have hO23 : Hid (∀ W, Calls Tryz.prog 53 #[.int .i64 2, .int .i64 3] W (RetVal (.agg #[.bool false, .string (natS la.2.1), .string (natS la.2.2)]) W)) := Lib.hid (fun W => by rw [hla]; exact lof_any 2 3 W ⟨by decide, by decide, by decide⟩)
  have hO13 : Hid (∀ W, Calls Tryz.prog 53 #[.int .i64 1, .int .i64 3] W (RetVal (.agg #[.bool false, .string (natS la.1.1), .string (natS la.1.2)]) W)) := Lib.hid (fun W => by rw [hla]; exact lof_any 1 3 W ⟨by decide, by decide, by decide⟩)
  have hO17 : Hid (∀ W, Calls Tryz.prog 53 #[.int .i64 1, .int .i64 7] W (RetVal (.agg #[.bool false, .string (natS lb.1.1), .string (natS lb.1.2)]) W)) := Lib.hid (fun W => by rw [hlb]; exact lof_any 1 7 W ⟨by decide, by decide, by decide⟩)
  have hO12 : Hid (∀ W, Calls Tryz.prog 53 #[.int .i64 1, .int .i64 2] W (RetVal (.agg #[.bool false, .string (natS lb.2.1), .string (natS lb.2.2)]) W)) := Lib.hid (fun W => by rw [hlb]; exact lof_any 1 2 W ⟨by decide, by decide, by decide⟩)
  have hAa : AngL la := by rw [hla]; exact ⟨⟨by decide, by decide, by decide⟩, by decide, by decide, by decide⟩
  have hAb : AngL lb := by rw [hlb]; exact ⟨⟨by decide, by decide, by decide⟩, by decide, by decide, by decide⟩
  have sz : ∀ p : Nat × Nat, Ang p → (natS p.1).size ≤ 9223372036854775807 ∧ (natS p.2).size ≤ 9223372036854775807 := fun p h => okA_size h.ok
  have hlta : cmpP la.1 la.2 < 0 := by rw [hla]; decide
  have hltb : cmpP lb.1 lb.2 < 0 := by rw [hlb]; decide
  have hM1 : Hid (∀ W, Calls Tryz.prog 25 #[.agg #[.bool false, .string (natS la.2.1), .string (natS la.2.2)], .agg #[.bool false, .string (natS la.1.1), .string (natS la.1.2)]] W (RetVal (.tuple #[.agg #[.bool false, .string (natS la.1.1), .string (natS la.1.2), .bool false, .string (natS la.2.1), .string (natS la.2.2)], .int .i64 0]) W)) := Lib.hid (fun W => by
    have h := lMake_any false (natS la.2.1) (natS la.2.2) false (natS la.1.1) (natS la.1.2) W (sz _ hAa.2).1 (sz _ hAa.2).2 (sz _ hAa.1).1 (sz _ hAa.1).2
    have e : makeLf false (natS la.2.1) (natS la.2.2) false (natS la.1.1) (natS la.1.2) = (leafV la, 0) := by
      rw [makeLf, hAa.2.ok, hAa.1.ok, if_pos rfl, if_pos rfl, be_natS, be_natS, be_natS, be_natS, hla]; rfl
    rw [e] at h
    exact h)
  have hM2 : Hid (∀ W, Calls Tryz.prog 25 #[.agg #[.bool false, .string (natS lb.1.1), .string (natS lb.1.2)], .agg #[.bool false, .string (natS lb.2.1), .string (natS lb.2.2)]] W (RetVal (.tuple #[.agg #[.bool false, .string (natS lb.1.1), .string (natS lb.1.2), .bool false, .string (natS lb.2.1), .string (natS lb.2.2)], .int .i64 0]) W)) := Lib.hid (fun W => by
    have h := lMake_any false (natS lb.1.1) (natS lb.1.2) false (natS lb.2.1) (natS lb.2.2) W (sz _ hAb.1).1 (sz _ hAb.1).2 (sz _ hAb.2).1 (sz _ hAb.2).2
    have e : makeLf false (natS lb.1.1) (natS lb.1.2) false (natS lb.2.1) (natS lb.2.2) = (leafV lb, 0) := by
      rw [makeLf, hAb.2.ok, hAb.1.ok, if_pos rfl, if_pos rfl, be_natS, be_natS, be_natS, be_natS, hlb]; rfl
    rw [e] at h
    exact h)
  have hCr : Hid (∀ W, Calls Tryz.prog 18 #[.agg #[.bool false, .string (natS la.1.1), .string (natS la.1.2), .bool false, .string (natS la.2.1), .string (natS la.2.2)], .agg #[.bool false, .string (natS lb.1.1), .string (natS lb.1.2), .bool false, .string (natS lb.2.1), .string (natS lb.2.2)]] W (RetVal (.tuple #[.bool true, .int .i64 0]) W)) := Lib.hid (fun W => by
    have h := lCross_any false (natS la.1.1) (natS la.1.2) false (natS la.2.1) (natS la.2.2) false (natS lb.1.1) (natS lb.1.2) false (natS lb.2.1) (natS lb.2.2) W (sz _ hAa.1).1 (sz _ hAa.1).2 (sz _ hAa.2).1 (sz _ hAa.2).2 (sz _ hAb.1).1 (sz _ hAb.1).2 (sz _ hAb.2).1 (sz _ hAb.2).2
    have e : crossLf false (natS la.1.1) (natS la.1.2) false (natS la.2.1) (natS la.2.2) false (natS lb.1.1) (natS lb.1.2) false (natS lb.2.1) (natS lb.2.2) = (true, 0) := by
      have c1 := chkLf_leaf la hAa
      rw [if_neg (by omega), if_neg (by omega)] at c1
      have c2 := chkLf_leaf lb hAb
      rw [if_neg (by omega), if_neg (by omega)] at c2
      rw [crossLf, c1, if_pos rfl, c2, if_pos rfl]
      simp only [be_natS]
      rw [hla, hlb]
      decide
    rw [e] at h
    exact h)
  have hAd : Hid (∀ (x : Nat) W, w.heap.size ≤ x → Lam W w.heap.size x (.slice none 0 0) [] → w.heap.size ≤ W.heap.size → Calls Tryz.prog 45 #[.pointer (some ⟨x, 0, none⟩), .agg #[.bool false, .string (natS la.1.1), .string (natS la.1.2), .bool false, .string (natS la.2.1), .string (natS la.2.2)]] W (fun e w' => e = .returned (.int .i64 0) ∧ ∃ v', Lam w' w.heap.size x v' [la] ∧ But (fun k => k = x) W w')) := Lib.hid (fun x W hx hL hs => by
    refine (lAdd_new w.heap.size x 0 (.slice none 0 0) [] la W hL hAa hlta (fun m hm => by simp at hm) ⟨Nat.le_refl _, fun t ht => absurd ht (Nat.not_lt_zero _), fun t _ ht => absurd ht (Nat.not_lt_zero _)⟩ (by simp) (fun t ht => absurd ht (Nat.not_lt_zero _)) (by simp) (by simp) (InsLaw.end_ _ _ _ _ (by simp)) hs (by simp [Value.ownBlock])).mono ?_
    rintro e w' ⟨rfl, v', h1, h2⟩
    refine ⟨rfl, v', h1, h2.wide (fun k _ hk => ?_)⟩
    rcases hk with h | h
    · exact h
    · cases h)
  have hone : ∀ m, m ∈ [la] → AngL m := fun m hm => by rw [List.mem_singleton.1 hm]; exact hAa
  have hAc : Hid (∀ (x : Nat) v W, Lam W w.heap.size x v [la] → Calls Tryz.prog 45 #[.pointer (some ⟨x, 0, none⟩), .agg #[.bool false, .string (natS lb.1.1), .string (natS lb.1.2), .bool false, .string (natS lb.2.1), .string (natS lb.2.2)]] W (RetVal (.int .i64 231) W)) := Lib.hid (fun x v W hL => lAdd_cross w.heap.size x 0 v [la] lb W hL hAb hltb hone ⟨Nat.zero_le _, fun t ht => absurd ht (Nat.not_lt_zero _), fun t _ ht => by
    obtain rfl : t = 0 := by simpa using ht
    show 0 ≤ ordL la lb
    rw [hla, hlb]; decide⟩ (by simp) (fun h => by
    have := h 0 (by simp)
    rw [show ([la] : List Lf)[0]! = la from rfl, hla, hlb] at this
    revert this
    decide))
  have hHs : Hid (∀ (x : Nat) v W, Lam W w.heap.size x v [la] → Calls Tryz.prog 42 #[.pointer (some ⟨x, 0, none⟩), .agg #[.bool false, .string (natS la.1.1), .string (natS la.1.2), .bool false, .string (natS la.2.1), .string (natS la.2.2)]] W (RetVal (.bool true) W)) := Lib.hid (fun x v W hL => by
    have h := lHas_any w.heap.size x 0 v [la] la W hL hAa hlta hone ⟨Nat.zero_le _, fun t ht => absurd ht (Nat.not_lt_zero _), fun t _ ht => by
      obtain rfl : t = 0 := by simpa using ht
      show 0 ≤ ordL la la
      rw [hla]; decide⟩ (by simp)
    have e : decide (0 < [la].length ∧ [la][0]! = la) = true := by simp
    rwa [e] at h)
  have hGp : Hid (∀ (x : Nat) v W, Lam W w.heap.size x v [la] → Calls Tryz.prog 28 #[.pointer (some ⟨x, 0, none⟩)] W (fun e w' => ∃ A c, e = .returned (.slice A 2 c) ∧ Below W.heap.size W w')) := Lib.hid (fun x v W hL => by
    refine (lGaps_some w.heap.size x v [la] W hL hone (by simp) (by simp)).mono ?_
    rintro e w' ⟨v', vs, rfl, h1, h2⟩
    obtain ⟨A, c, rfl, -, -⟩ := own_form h1.out.row
    have e2 : vs.length = 2 := by rw [h1.out.1, hla]; decide
    exact ⟨A, c, by rw [e2], h2.out⟩)
  have hLe : Hid (∀ (x : Nat) v W, Lam W w.heap.size x v [la] → Calls Tryz.prog 29 #[.pointer (some ⟨x, 0, none⟩)] W (RetVal (.int .i64 1) W)) := Lib.hid (fun x v W hL => by
    obtain ⟨A, c, rfl, -⟩ := LRow.form hL.row
    exact lLen_any x true A 1 c W hL.blk)
  have hB := Lib.hid (Below.refl w.heap.size w)
  clear hla hlb hAa hAb sz hlta hltb hone
  go_enter Tryz.func11, Tryz.ntmps11
  go_wp2_with fail
  refine (hO23.out _).mono ?_
  rintro en w1 ⟨rfl, hb⟩
  replace hB := Lib.hid (hB.out.trans (hb.mono hB.out.size))
  clear hb hO23
  go_wp2_with fail
  refine (hO13.out _).mono ?_
  rintro en w2 ⟨rfl, hb⟩
  replace hB := Lib.hid (hB.out.trans (hb.mono hB.out.size))
  clear hb hO13
  go_wp2_with fail
  refine (hM1.out _).mono ?_
  rintro en w3 ⟨rfl, hb⟩
  replace hB := Lib.hid (hB.out.trans (hb.mono hB.out.size))
  clear hb hM1
  have qa := Lib.hid (Blk.new w3 38 #[.bool false, .string (natS la.1.1), .string (natS la.1.2), .bool false, .string (natS la.2.1), .string (natS la.2.2)])
  replace hB := Lib.hid (hB.out.alloc hB.out.size (.cells #[.bool false, .string (natS la.1.1), .string (natS la.1.2), .bool false, .string (natS la.2.1), .string (natS la.2.2)] 38))
  go_upto_region 2 with fail
  generalize hW : w3.alloc (.cells #[.bool false, .string (natS la.1.1), .string (natS la.1.2), .bool false, .string (natS la.2.1), .string (natS la.2.2)] 38) = w4 at qa hB ⊢
  generalize hg : w3.heap.size = ga at qa ⊢
  clear hW hg w3
  go_wp2_with fail
  refine (hO17.out _).mono ?_
  rintro en w5 ⟨rfl, hb⟩
  replace hB := Lib.hid (hB.out.trans (hb.mono hB.out.size))
  replace qa := Lib.hid (Blk.below qa.out hb)
  clear hb hO17
  go_wp2_with fail
  refine (hO12.out _).mono ?_
  rintro en w6 ⟨rfl, hb⟩
  replace hB := Lib.hid (hB.out.trans (hb.mono hB.out.size))
  replace qa := Lib.hid (Blk.below qa.out hb)
  clear hb hO12
  go_wp2_with fail
  refine (hM2.out _).mono ?_
  rintro en w7 ⟨rfl, hb⟩
  replace hB := Lib.hid (hB.out.trans (hb.mono hB.out.size))
  replace qa := Lib.hid (Blk.below qa.out hb)
  clear hb hM2
  have qb := Lib.hid (Blk.new w7 38 #[.bool false, .string (natS lb.1.1), .string (natS lb.1.2), .bool false, .string (natS lb.2.1), .string (natS lb.2.2)])
  replace qa := Lib.hid (Blk.alloc qa.out (.cells #[.bool false, .string (natS lb.1.1), .string (natS lb.1.2), .bool false, .string (natS lb.2.1), .string (natS lb.2.2)] 38))
  replace hB := Lib.hid (hB.out.alloc hB.out.size (.cells #[.bool false, .string (natS lb.1.1), .string (natS lb.1.2), .bool false, .string (natS lb.2.1), .string (natS lb.2.2)] 38))
  go_upto_region 3 with fail
  generalize hW : w7.alloc (.cells #[.bool false, .string (natS lb.1.1), .string (natS lb.1.2), .bool false, .string (natS lb.2.1), .string (natS lb.2.2)] 38) = w8 at qa qb hB ⊢
  generalize hg : w7.heap.size = gb at qb ⊢
  clear hW hg w7
  have a0 : w8.cell? ⟨ga, 0, none⟩ = some (.bool false) := qa.out.cell 0
  have a1 : w8.cell? ⟨ga, 1, none⟩ = some (.string (natS la.1.1)) := qa.out.cell 1
  have a2 : w8.cell? ⟨ga, 2, none⟩ = some (.string (natS la.1.2)) := qa.out.cell 2
  have a3 : w8.cell? ⟨ga, 3, none⟩ = some (.bool false) := qa.out.cell 3
  have a4 : w8.cell? ⟨ga, 4, none⟩ = some (.string (natS la.2.1)) := qa.out.cell 4
  have a5 : w8.cell? ⟨ga, 5, none⟩ = some (.string (natS la.2.2)) := qa.out.cell 5
  have b0 : w8.cell? ⟨gb, 0, none⟩ = some (.bool false) := qb.out.cell 0
  have b1 : w8.cell? ⟨gb, 1, none⟩ = some (.string (natS lb.1.1)) := qb.out.cell 1
  have b2 : w8.cell? ⟨gb, 2, none⟩ = some (.string (natS lb.1.2)) := qb.out.cell 2
  have b3 : w8.cell? ⟨gb, 3, none⟩ = some (.bool false) := qb.out.cell 3
  have b4 : w8.cell? ⟨gb, 4, none⟩ = some (.string (natS lb.2.1)) := qb.out.cell 4
  have b5 : w8.cell? ⟨gb, 5, none⟩ = some (.string (natS lb.2.2)) := qb.out.cell 5
  go_wp2_with fail
  refine (hCr.out _).mono ?_
  rintro en w9 ⟨rfl, hb⟩
  replace hB := Lib.hid (hB.out.trans (hb.mono hB.out.size))
  replace qa := Lib.hid (Blk.below qa.out hb)
  replace qb := Lib.hid (Blk.below qb.out hb)
  clear hb hCr
  clear a0 a1 a2 a3 a4 a5 b0 b1 b2 b3 b4 b5
  go_wp2_with fail
  refine (lNew_any _).mono ?_
  rintro en w10 ⟨rfl, rfl⟩
  have hBl := Blk.new w9 103 #[.bool true, .slice none 0 0]
  have hne : ga ≠ w9.heap.size ∧ gb ≠ w9.heap.size := ⟨Nat.ne_of_lt qa.out.lt, Nat.ne_of_lt qb.out.lt⟩
  replace qa := Lib.hid (Blk.alloc qa.out (.cells #[.bool true, .slice none 0 0] 103))
  replace qb := Lib.hid (Blk.alloc qb.out (.cells #[.bool true, .slice none 0 0] 103))
  have hxw : w.heap.size ≤ w9.heap.size := hB.out.size
  replace hB := Lib.hid (hB.out.alloc hB.out.size (.cells #[.bool true, .slice none 0 0] 103))
  generalize hW : w9.alloc (.cells #[.bool true, .slice none 0 0] 103) = w11 at hBl qa qb hB ⊢
  generalize hg : w9.heap.size = x at hBl hxw hne ⊢
  clear hW hg w9
  have hLm : Hid (Lam w11 w.heap.size x (.slice none 0 0) []) := Lib.hid ⟨hBl, World.ownsRow_nil _ _ _ _, hxw⟩
  clear hBl
  have a0 : w11.cell? ⟨ga, 0, none⟩ = some (.bool false) := qa.out.cell 0
  have a1 : w11.cell? ⟨ga, 1, none⟩ = some (.string (natS la.1.1)) := qa.out.cell 1
  have a2 : w11.cell? ⟨ga, 2, none⟩ = some (.string (natS la.1.2)) := qa.out.cell 2
  have a3 : w11.cell? ⟨ga, 3, none⟩ = some (.bool false) := qa.out.cell 3
  have a4 : w11.cell? ⟨ga, 4, none⟩ = some (.string (natS la.2.1)) := qa.out.cell 4
  have a5 : w11.cell? ⟨ga, 5, none⟩ = some (.string (natS la.2.2)) := qa.out.cell 5
  go_wp2_with fail
  refine (hAd.out x _ hxw hLm.out hB.out.size).mono ?_
  rintro en w12 ⟨rfl, v1, hL1, hbut⟩
  replace qa := Lib.hid ((hbut.block ga qa.out.lt hne.1).trans qa.out)
  replace qb := Lib.hid ((hbut.block gb qb.out.lt hne.2).trans qb.out)
  replace hB := Lib.hid (hB.out.trans (hbut.toBelow hB.out.size (fun k hk e => by subst e; omega)))
  replace hL1 := Lib.hid hL1
  clear hbut hAd hLm hne a0 a1 a2 a3 a4 a5
  replace qa : Hid (Blk w12 ga 38 #[.bool false, .string (natS la.1.1), .string (natS la.1.2), .bool false, .string (natS la.2.1), .string (natS la.2.2)]) := qa
  replace qb : Hid (Blk w12 gb 38 #[.bool false, .string (natS lb.1.1), .string (natS lb.1.2), .bool false, .string (natS lb.2.1), .string (natS lb.2.2)]) := qb
  have b0 : w12.cell? ⟨gb, 0, none⟩ = some (.bool false) := qb.out.cell 0
  have b1 : w12.cell? ⟨gb, 1, none⟩ = some (.string (natS lb.1.1)) := qb.out.cell 1
  have b2 : w12.cell? ⟨gb, 2, none⟩ = some (.string (natS lb.1.2)) := qb.out.cell 2
  have b3 : w12.cell? ⟨gb, 3, none⟩ = some (.bool false) := qb.out.cell 3
  have b4 : w12.cell? ⟨gb, 4, none⟩ = some (.string (natS lb.2.1)) := qb.out.cell 4
  have b5 : w12.cell? ⟨gb, 5, none⟩ = some (.string (natS lb.2.2)) := qb.out.cell 5
  go_wp2_with fail
  refine (hAc.out x v1 _ hL1.out).mono ?_
  rintro en w13 ⟨rfl, hb⟩
  replace hB := Lib.hid (hB.out.trans (hb.mono hB.out.size))
  replace qa := Lib.hid (Blk.below qa.out hb)
  replace hL1 := Lib.hid (hL1.out.below hb)
  clear hb hAc b0 b1 b2 b3 b4 b5 qb
  go_wp2_with fail
  refine (hLe.out x v1 _ hL1.out).mono ?_
  rintro en w14 ⟨rfl, hb⟩
  replace hB := Lib.hid (hB.out.trans (hb.mono hB.out.size))
  replace qa := Lib.hid (Blk.below qa.out hb)
  replace hL1 := Lib.hid (hL1.out.below hb)
  clear hb hLe
  have a0 : w14.cell? ⟨ga, 0, none⟩ = some (.bool false) := qa.out.cell 0
  have a1 : w14.cell? ⟨ga, 1, none⟩ = some (.string (natS la.1.1)) := qa.out.cell 1
  have a2 : w14.cell? ⟨ga, 2, none⟩ = some (.string (natS la.1.2)) := qa.out.cell 2
  have a3 : w14.cell? ⟨ga, 3, none⟩ = some (.bool false) := qa.out.cell 3
  have a4 : w14.cell? ⟨ga, 4, none⟩ = some (.string (natS la.2.1)) := qa.out.cell 4
  have a5 : w14.cell? ⟨ga, 5, none⟩ = some (.string (natS la.2.2)) := qa.out.cell 5
  go_wp2_with fail
  refine (hHs.out x v1 _ hL1.out).mono ?_
  rintro en w15 ⟨rfl, hb⟩
  replace hB := Lib.hid (hB.out.trans (hb.mono hB.out.size))
  replace hL1 := Lib.hid (hL1.out.below hb)
  clear hb hHs qa a0 a1 a2 a3 a4 a5
  go_wp2_with fail
  refine (hGp.out x v1 _ hL1.out).mono ?_
  rintro en w16 ⟨A, c, rfl, hb⟩
  replace hB := Lib.hid (hB.out.trans (hb.mono hB.out.size))
  clear hb hGp hL1
  go_wp2_with fail
  go_ret
  exact ⟨rfl, hB.out⟩
end Go.Proofs.YtoaggmegmgdgbaaGreat
