/- The document's answer: filigreeref02.Of; Angle.Ratio; filigreelaw21.is. -/
import Derived.Test.YtciafmnideihjaaRefD
import Derived.Test.YtciafmnideihjaaAngK
import Derived.Lib.QuietBelow
import Derived.Deep.CutBlock
namespace Go.Proofs.Ytciafmnideihjaa
open Go.RowKit Go.Sort

theorem info_int : (Try.prog.info? 3).map (fun i => (i.zero, i.size, i.bytes)) = some (some (.int .i64 0), 1, 8) := by kernel_rfl

/-- A row of the call's own reads as its numbers. -/
theorem rd_own {w : World} {base : Nat} {T : TypeId} {k : IntKind} {v : Value} {l : List Nat} (h : w.ownsRow base T 1 v l.length (ivs k l)) : Rd k T w v l := by
  obtain ⟨hl, hc⟩ := h
  rcases hc with ⟨rfl, h0⟩ | ⟨g, cap, cur, rfl, -, hg, hn, hm, -, ht⟩
  · have : l = [] := List.eq_nil_of_length_eq_zero h0
    subst this
    exact Rd.nil_
  · refine ⟨_, cap, rfl, hn, hm, fun _ => ⟨g, 0, l, rfl, ⟨cur, (0, 0), hg, fun j x hj => ?_⟩, fun j x hj => by simpa using hj⟩⟩
    have hlt := lt_of_getElem? hj
    have e := ivs_get (k := k) hj
    rw [← ht, Nat.mul_one, List.getElem?_take, if_pos hlt] at e
    simpa using e

theorem be_rev_snoc (L : List Nat) (d : Nat) : be (L ++ [d]).reverse = be L.reverse + 256 ^ L.length * d := by
  rw [List.reverse_append, be_append, List.length_reverse]
  simp [be]
  rw [Nat.mul_comm, Nat.add_comm]

set_option maxRecDepth 100000 in
set_option maxHeartbeats 1000000 in
/-- filigreeref02.Of -/
theorem rnum_any (n0 : Nat) (w : World) (hn0 : n0 < 18446744073709551616) :
    Calls Try.prog 58 #[.int .u64 (n0 : Int)] w (RetVal (.string (natS n0)) w) := by
  obtain ⟨i0, hi, hz0, hz1, hz2⟩ := info_parts info_int
  go_enter Try.func58, Try.ntmps58
  go_wp2
  go_loopw [0, 3] (fun n v wr => ∃ (x : Nat) (L : List Nat), n = .int .u64 (x : Int) ∧ x < 256 ^ (8 - L.length) ∧ L.length ≤ 8 ∧ (∀ y, y ∈ L → y < 256) ∧ be L.reverse + 256 ^ L.length * x = n0 ∧ wr.ownsRow w.heap.size 3 1 v L.length (ivs .i64 L) ∧ Below w.heap.size w wr) (fun n _ _ => (intOf n).toNat)
  case atStart => exact ⟨n0, [], rfl, hn0, Nat.zero_le _, fun y hy => (by cases hy), by simp [be], World.ownsRow_nil _ _ _ _, Below.refl _ _⟩
  case round =>
    obtain ⟨x, L, rfl, hx, hL8, hLs, hbe, hown, hB⟩ := hrel
    have hxs : x < 18446744073709551616 := Nat.lt_of_lt_of_le hx (by
      refine Nat.le_trans (Nat.pow_le_pow_right (by omega) (show 8 - L.length ≤ 8 by omega)) (by decide))
    replace hLs := Lib.hid hLs
    replace hown := Lib.hid hown
    replace hB := Lib.hid hB
    by_cases h0 : 0 < x
    · have h0I : (0 : Int) < (x : Int) := by omega
      have hL7 : L.length < 8 := by
        rcases Nat.lt_or_ge L.length 8 with h | h
        · exact h
        · rw [show 8 - L.length = 0 by omega] at hx; omega
      obtain ⟨q, hq⟩ : ∃ q, q = x / 256 := ⟨_, rfl⟩
      obtain ⟨r, hr⟩ : ∃ r, r = x % 256 := ⟨_, rfl⟩
      have hqi : (x : Int) / 256 = (q : Int) := by omega
      have hri : (x : Int) % 256 = (r : Int) := by omega
      have hr256 : r < 256 := by omega
      have hqx : q < x := by omega
      have hq8 : Hid (q < 256 ^ (8 - (L ++ [r]).length)) := Lib.hid (by
        rw [List.length_append, hq]
        refine Nat.div_lt_of_lt_mul ?_
        rw [show 8 - L.length = (8 - (L.length + [r].length)) + 1 by simp; omega, Nat.pow_succ] at hx
        omega)
      have hbe2 : Hid (be (L ++ [r]).reverse + 256 ^ (L ++ [r]).length * q = n0) := Lib.hid (by
        rw [be_rev_snoc, List.length_append, ← hbe, Nat.add_assoc]
        congr 1
        rw [show L.length + [r].length = L.length + 1 by simp, Nat.pow_succ, Nat.mul_assoc, ← Nat.mul_add]
        congr 1
        omega)
      have hLs2 : Hid (∀ y, y ∈ L ++ [r] → y < 256) := Lib.hid (fun y hy => by
        rcases List.mem_append.1 hy with h | h
        · exact hLs.out y h
        · rw [List.mem_singleton.1 h]; exact hr256)
      obtain ⟨wo, rfl⟩ : ∃ wo : World, wo = wr := ⟨_, rfl⟩
      clear hq hr hx hbe
      go_wp2_with (at_builtin; refine wpList_append_own _ rfl _ _ 138 rfl w.heap.size 3 i0 (.int .i64 0) 1 8 Try.underlying138 hi hz0 hz1 hz2 rfl (by decide) _ _ _ rfl (hown.out.alloc _) ⟨wo.heap.size, 0, none⟩ 1 1 [.int .i64 (r : Int)] rfl rfl ?d1 ?d2 ?d3 ?d4 ?d5 ?_)
      case d1 =>
        intro j u hj
        match j, hj with
        | 0, hj => simp at hj; subst hj; simp [Addr.add]
      case d2 => intro u hu; simp at hu; rw [hu]; rfl
      case d3 => unfold maxLen; omega
      case d4 => omega
      case d5 => have := hB.out.size; simp; omega
      intro v' w1 hown' hgrow _
      have hB1 : Below w.heap.size w w1 := (hB.out.alloc hB.out.size _).grown hgrow (by have := hB.out.size; simp; omega) (fun k hk => (hown.out.lt k hk).1)
      have hown2 : w1.ownsRow w.heap.size 3 1 v' (L ++ [r]).length (ivs .i64 (L ++ [r])) := by rw [ivs_append, List.length_append]; exact hown'
      replace hB1 := Lib.hid hB1
      replace hown2 := Lib.hid hown2
      clear hown' hgrow
      go_wp2
      go_roundw
      case rel => exact ⟨q, L ++ [r], by go_num, hq8.out, by rw [List.length_append]; simp; omega, hLs2.out, hbe2.out, hown2.out, hB1.out⟩
      case measure => simp [intOf]; omega
    · obtain rfl : x = 0 := by omega
      have hfin : Hid (madeS L = natS n0) := Lib.hid (by
        unfold madeS
        rw [Nat.mul_zero, Nat.add_zero] at hbe
        rw [hbe])
      clear hbe hx
      go_wp2_with fail
      refine (made_any _ L _ (rd_own hown.out) hLs.out (by omega)).mono ?_
      rintro e w1 ⟨rfl, hb⟩
      rw [hfin.out]
      have hB1 := Lib.hid (hB.out.trans (hb.mono hB.out.size))
      clear hb
      go_wp2
      go_ret
      exact ⟨rfl, hB1.out⟩

set_option maxRecDepth 100000 in
set_option maxHeartbeats 400000 in
/-- filigreeref21.Angle.Ratio -/
theorem rratio_any (n d : Nat) (w : World) (hn : n < 18446744073709551616) (hd : d < 18446744073709551616) :
    Calls Try.prog 24 #[.agg #[.int .u64 (n : Int), .int .u64 (d : Int)]] w (RetVal (ratV n d) w) := by
  go_enter Try.func24, Try.ntmps24
  go_wp2_with fail
  have hK1 := (Blk.new w 34 #[.int .u64 (n : Int), .int .u64 (d : Int)]).alloc (.cells #[.bool false, .string ⟨#[]⟩, .string ⟨#[]⟩] 24)
  have hK2 := Blk.new (w.alloc (.cells #[.int .u64 (n : Int), .int .u64 (d : Int)] 34)) 24 #[.bool false, .string ⟨#[]⟩, .string ⟨#[]⟩]
  have hBW : Below w.heap.size w ((w.alloc (.cells #[.int .u64 (n : Int), .int .u64 (d : Int)] 34)).alloc (.cells #[.bool false, .string ⟨#[]⟩, .string ⟨#[]⟩] 24)) := ((Below.refl _ w).alloc (Nat.le_refl _) _).alloc (by simp) _
  have hsz : (w.alloc (.cells #[.int .u64 (n : Int), .int .u64 (d : Int)] 34)).heap.size = w.heap.size + 1 := by simp
  rw [hsz] at hK2
  replace hK1 := Lib.hid hK1
  replace hK2 := Lib.hid hK2
  replace hBW := Lib.hid hBW
  clear hsz
  go_region_held3 (fun w' => w'.cell? ⟨w.heap.size, 0, none⟩ = some (.int .u64 (n : Int)) ∧ w'.cell? ⟨w.heap.size, 1, none⟩ = some (.int .u64 (d : Int))) (go_keep)
    (first
      | (go_at_call_of 58 (Value.int .u64 (n : Int)); refine (rnum_any n _ hn).mono ?_; rintro e w3 ⟨rfl, hB⟩; have q1 := Blk.below (Blk.drew hK1.out) hB; have q2 := Blk.below (Blk.drew hK2.out) hB; have hBw : Below w.heap.size w w3 := hBW.out.drew.trans (hB.mono (by simp; omega)); have k1 : w3.cell? ⟨w.heap.size, 0, none⟩ = some (.int .u64 (n : Int)) := q1.cell 0; have k2 : w3.cell? ⟨w.heap.size, 1, none⟩ = some (.int .u64 (d : Int)) := q1.cell 1; replace hBw := Lib.hid hBw; replace q1 := Lib.hid q1; replace q2 := Lib.hid q2; clear hB)
      | (go_at_call_of 58 (Value.int .u64 (d : Int)); refine (rnum_any d _ hd).mono ?_; rintro e w4 ⟨rfl, hB⟩; have r1 := Blk.below q1.out hB; have r2 := Blk.below q2.out hB; have hBx : Below w.heap.size w w4 := hBw.out.trans (hB.mono hBw.out.size); have j1 : w4.cell? ⟨w.heap.size, 0, none⟩ = some (.int .u64 (n : Int)) := r1.cell 0; have j2 : w4.cell? ⟨w.heap.size, 1, none⟩ = some (.int .u64 (d : Int)) := r1.cell 1; have i0 : w4.cell? ⟨w.heap.size + 1, 0, none⟩ = some (.bool false) := r2.cell 0; have i1 : w4.cell? ⟨w.heap.size + 1, 1, none⟩ = some (.string ⟨#[]⟩) := r2.cell 1; have i2 : w4.cell? ⟨w.heap.size + 1, 2, none⟩ = some (.string ⟨#[]⟩) := r2.cell 2; have f0 := r2.frozen 0; have f1 := r2.frozen 1; have f2 := r2.frozen 2; replace hBx := Lib.hid hBx; clear r1 r2 hB))
  all_goals
    go_wp2
    refine bodyPost_ret (v := .agg #[.bool false, .string (natS n), .string (natS d)]) (by simp [results, Try.results24, go_sem, i0, i1, i2]) rfl ⟨rfl, ?_⟩
    exact ((hBx.out.setCell (p := ⟨w.heap.size + 1, 0, none⟩) (by simp) _).setCell (p := ⟨w.heap.size + 1, 1, none⟩) (by simp) _).setCell (p := ⟨w.heap.size + 1, 2, none⟩) (by simp) _

theorem ba_nil : (⟨#[]⟩ : ByteArray).toList = [] := by rw [ByteArray.toList_eq]

set_option maxRecDepth 100000 in
set_option maxHeartbeats 400000 in
/-- filigreelaw21.is, of an error: both tell the same. -/
theorem is_no (n d : Nat) (f : Int) (w : World) (h0 : f ≠ 0) :
    Calls Try.prog 27 #[.agg #[.bool false, .string ⟨#[]⟩, .string ⟨#[]⟩], .int .i64 f, .agg #[.int .u64 (n : Int), .int .u64 (d : Int)], .int .i64 f] w (RetVal (.bool true) w) := by
  have hb : (f != 0) = true := by simpa using h0
  go_enter Try.func27, Try.ntmps27
  go_wp2_with fail
  go_ret
  exact ⟨by simp, ((Below.refl _ w).alloc (Nat.le_refl _) _).alloc (by simp) _⟩

set_option maxRecDepth 100000 in
set_option maxHeartbeats 400000 in
/-- filigreelaw21.is, of an angle: both tell the same. -/
theorem is_yes (n d : Nat) (w : World) (hn : n < 18446744073709551616) (hd : d < 18446744073709551616) :
    Calls Try.prog 27 #[.agg #[.bool false, .string (natS n), .string (natS d)], .int .i64 0, .agg #[.int .u64 (n : Int), .int .u64 (d : Int)], .int .i64 0] w (RetVal (.bool true) w) := by
  have hK1 := (Blk.new w 24 #[.bool false, .string (natS n), .string (natS d)]).alloc (.cells #[.int .u64 (n : Int), .int .u64 (d : Int)] 34)
  have hK2 := Blk.new (w.alloc (.cells #[.bool false, .string (natS n), .string (natS d)] 24)) 34 #[.int .u64 (n : Int), .int .u64 (d : Int)]
  have hBW : Below w.heap.size w ((w.alloc (.cells #[.bool false, .string (natS n), .string (natS d)] 24)).alloc (.cells #[.int .u64 (n : Int), .int .u64 (d : Int)] 34)) := ((Below.refl _ w).alloc (Nat.le_refl _) _).alloc (by simp) _
  rw [show (w.alloc (.cells #[.bool false, .string (natS n), .string (natS d)] 24)).heap.size = w.heap.size + 1 by simp] at hK2
  obtain ⟨u3, hu3⟩ : ∃ u3, u3 = ((w.alloc (.cells #[.bool false, .string (natS n), .string (natS d)] 24)).alloc (.cells #[.int .u64 (n : Int), .int .u64 (d : Int)] 34)) := ⟨_, rfl⟩
  have hU := Lib.hid hu3
  rw [← hu3] at hK1 hK2 hBW
  have r0 : ∀ d' os, (grow (redrawn u3 d') os).cell? ⟨w.heap.size, 0, none⟩ = some (.bool false) := cell_regrown (Blk.cell hK1 0)
  have r1 : ∀ d' os, (grow (redrawn u3 d') os).cell? ⟨w.heap.size, 1, none⟩ = some (.string (natS n)) := cell_regrown (Blk.cell hK1 1)
  have r2 : ∀ d' os, (grow (redrawn u3 d') os).cell? ⟨w.heap.size, 2, none⟩ = some (.string (natS d)) := cell_regrown (Blk.cell hK1 2)
  have s0 : ∀ d' os, (grow (redrawn u3 d') os).cell? ⟨w.heap.size + 1, 0, none⟩ = some (.int .u64 (n : Int)) := cell_regrown (Blk.cell hK2 0)
  have s1 : ∀ d' os, (grow (redrawn u3 d') os).cell? ⟨w.heap.size + 1, 1, none⟩ = some (.int .u64 (d : Int)) := cell_regrown (Blk.cell hK2 1)
  have cc : ∀ d' os, Calls Try.prog 24 #[.agg #[.int .u64 (n : Int), .int .u64 (d : Int)]] (grow (redrawn u3 d') os) fun e w'' => e = .returned (.agg #[.bool false, .string (natS n), .string (natS d)]) ∧ ∃ p : Regrown, w'' = grow (redrawn u3 p.d) p.os :=
    fun d' os => Calls.regrown_of (rratio_any n d _ hn hd)
  replace hBW := Lib.hid hBW
  clear hu3 hK1 hK2
  go_enter Try.func27, Try.ntmps27
  go_wp2_with fail
  rw [← hU.out]
  refine wp_region_quiet_below (by kernel_rfl) (by kernel_rfl) ?_
  iterate 2 (quiet_step (fail))
  quiet_step (exact cc _ _)
  iterate 6 (quiet_step (fail))
  refine wpQuiet_nil ?_
  intro u4 hw'
  have hb : Below u3.heap.size u3 u4 := by
    obtain ⟨p, rfl⟩ := hw'
    exact below_regrown u3 p.d p.os
  have hB4 := Lib.hid (hBW.out.trans (hb.mono hBW.out.size))
  clear hw' cc r0 r1 r2 s0 s1 hb
  go_wp2_with fail
  go_ret
  exact ⟨by simp, hB4.out⟩
end Go.Proofs.Ytciafmnideihjaa
