/- Package itin: Shift. -/
import Derived.Test.YtbddlbhanpjdnaaGreatDoorItS
namespace Go.Proofs.YtbddlbhanpjdnaaGreatDoor
open Go.RowKit Go.Sort

theorem own_form {w : World} {base : Nat} {T : TypeId} {size : Nat} {v : Value} {n : Nat} {xs : List Value} (h : w.ownsRow base T size v n xs) : ∃ A c, v = .slice A n c := by
  rcases own_forms h with ⟨e, e2⟩ | ⟨g, c, e⟩
  · exact ⟨none, 0, by rw [e, e2]⟩
  · exact ⟨_, _, e⟩

set_option maxRecDepth 100000 in
set_option maxHeartbeats 2000000 in
/-- itin.Shift -/
theorem iShift_any (a b : Value) (P Q : List Nat) (n : Int) (w : World) (h : Itn w a b P Q) (hn : n ≤ 9223372036854775807) (E : Int) (hE : E = atE P Q n)
    (PP QQ : List Nat) (hPP : PP = if E = 0 then shP P Q n.toNat else []) (hQQ : QQ = if E = 0 then shQ P Q n.toNat else []) :
    Calls Tryz.prog 18 #[.agg #[a, b], .int .i64 n] w (RetRowE PP QQ E w) := by
  obtain ⟨i0, hi, hz0, hz1, hz2⟩ := info_parts info_u8
  obtain ⟨⟨A1, n1, c1, T1, rfl, h1⟩, ⟨A2, n2, c2, T2, rfl, h2⟩, s1, s2, l1, l2⟩ := h
  obtain ⟨r, hr⟩ : ∃ r, r = chkE P Q := ⟨_, rfl⟩
  have hBW : Below w.heap.size w ((w.alloc (.cells #[.slice A1 n1 c1, .slice A2 n2 c2] 30)).alloc (.cells #[.slice none 0 0, .slice none 0 0] 30)) := ((Below.refl _ w).alloc (Nat.le_refl _) _).alloc (by simp) _
  have k0 := (Blk.new w 30 #[.slice A1 n1 c1, .slice A2 n2 c2]).alloc (.cells #[.slice none 0 0, .slice none 0 0] 30)
  have k1 := Blk.new (w.alloc (.cells #[.slice A1 n1 c1, .slice A2 n2 c2] 30)) 30 #[.slice none 0 0, .slice none 0 0]
  rw [show (w.alloc (.cells #[.slice A1 n1 c1, .slice A2 n2 c2] 30)).heap.size = w.heap.size + 1 by simp] at k1
  have hC := fun W h1 h2 => iCheck_any (T1 := T1) (T2 := T2) A1 A2 n1 c1 n2 c2 P Q W h1 h2 s1 s2 l1 l2
  rw [← hr] at hC
  have e1 := (rd_cells h1).1
  have e2 := (rd_cells h2).1
  have hR1 := Lib.hid h1
  have hR2 := Lib.hid h2
  replace hBW := Lib.hid hBW
  replace k0 := Lib.hid k0
  replace k1 := Lib.hid k1
  replace hC := Lib.hid hC
  replace hr := Lib.hid hr
  replace hPP := Lib.hid hPP
  replace hQQ := Lib.hid hQQ
  replace hE := Lib.hid hE
  replace hn := Lib.hid hn
  replace e1 := Lib.hid e1
  replace e2 := Lib.hid e2
  clear h1 h2 s1 s2 l1 l2
  go_enter Tryz.func18, Tryz.ntmps18
  go_wp2_with fail
  refine (hC.out _ (hR1.out.below hBW.out) (hR2.out.below hBW.out)).mono ?_
  rintro en v1 ⟨rfl, hb⟩
  have hB1 := Lib.hid (hBW.out.trans (hb.mono hBW.out.size))
  have j0 := Lib.hid (Blk.below k0.out hb)
  have j1 := Lib.hid (Blk.below k1.out hb)
  have a0 : v1.cell? ⟨w.heap.size, 0, none⟩ = some (.slice A1 n1 c1) := j0.out.cell 0
  have a1 : v1.cell? ⟨w.heap.size, 1, none⟩ = some (.slice A2 n2 c2) := j0.out.cell 1
  have b0 : v1.cell? ⟨w.heap.size + 1, 0, none⟩ = some (.slice none 0 0) := j1.out.cell 0
  have b1 : v1.cell? ⟨w.heap.size + 1, 1, none⟩ = some (.slice none 0 0) := j1.out.cell 1
  have f0 := j1.out.frozen 0
  have f1 := j1.out.frozen 1
  have K2 := Lib.hid (Blk.set_ (Blk.set_ j1.out 0 (.slice none 0 0)) 1 (.slice none 0 0))
  have hB2 := Lib.hid ((hB1.out.setCell (p := ⟨w.heap.size + 1, 0, none⟩) (by simp) (.slice none 0 0)).setCell (p := ⟨w.heap.size + 1, 1, none⟩) (by simp) (.slice none 0 0))
  clear hb hBW k0 k1 hC
  rcases atE_cases (P := P) (Q := Q) (n := n) with ⟨x1, x2⟩ | ⟨x1, x2, x3⟩ | ⟨x1, x2, x3⟩
  · obtain rfl : r = 220 := by rw [hr.out]; exact mayI_no x2
    obtain rfl : E = 220 := by rw [hE.out, x1]
    have hpq : PP = [] ∧ QQ = [] := by rw [hPP.out, hQQ.out]; exact ⟨if_neg (by decide), if_neg (by decide)⟩
    obtain ⟨rfl, rfl⟩ := hpq
    clear x1 x2 hr hPP hQQ hE
    go_wp2_with fail
    have q0 := K2.out.cell 0
    have q1 := K2.out.cell 1
    refine bodyPost_ret (v := .tuple #[.agg #[.slice none 0 0, .slice none 0 0], .int .i64 220]) (by simp [results, Tryz.results18, go_sem, q0, q1]) rfl (retRowE_nil rfl rfl hB2.out)
  · obtain rfl : r = 0 := by rw [hr.out]; exact mayI_yes x2
    obtain rfl : E = 2 := by rw [hE.out, x1]
    have hpq : PP = [] ∧ QQ = [] := by rw [hPP.out, hQQ.out]; exact ⟨if_neg (by decide), if_neg (by decide)⟩
    obtain ⟨rfl, rfl⟩ := hpq
    clear x1 x2 hr hPP hQQ hE
    go_wp2_with fail
    have q0 := K2.out.cell 0
    have q1 := K2.out.cell 1
    refine bodyPost_ret (v := .tuple #[.agg #[.slice none 0 0, .slice none 0 0], .int .i64 2]) (by simp [results, Tryz.results18, go_sem, q0, q1]) rfl (retRowE_nil rfl rfl hB2.out)
  · obtain rfl : r = 0 := by rw [hr.out]; exact mayI_yes x2
    obtain rfl : E = 0 := by rw [hE.out, x1]
    obtain ⟨m, rfl⟩ : ∃ m : Nat, n = (m : Int) := ⟨n.toNat, by omega⟩
    have hPe := hPP.out
    have hQe := hQQ.out
    rw [if_pos rfl, Int.toNat_natCast] at hPe hQe
    obtain ⟨y1, y2, -, -⟩ := mayI_spec x2
    have hm9 : m ≤ 9223372036854775807 := by have := hn.out; omega
    have hsz := Lib.hid j1.out.lt
    clear x1 x2 hr hPP hQQ hE K2 hB2 hn
    obtain ⟨g, off, rfl, hg2, hcell2⟩ := (rd_cells hR2.out).2.2.2 (fun e => by rw [e] at y1; simp at y1)
    have hc2 := (rd_cells hR2.out).2.1
    have hc2m := (rd_cells hR2.out).2.2.1
    rw [← e2.out] at y1 hc2
    by_cases h0 : m < n1
    · obtain ⟨g', off', rfl, -, -⟩ := (rd_cells hR1.out).2.2.2 (fun e => by rw [e1.out, e] at h0; simp at h0)
      have hc1 := (rd_cells hR1.out).2.1
      have hc1m := (rd_cells hR1.out).2.2.1
      rw [← e1.out] at hc1 y2
      rw [← e2.out] at y2
      have hlo : Hid (∀ W, Below w.heap.size w W → Calls Tryz.prog 34 #[.agg #[.slice (some ⟨g', off' + m, none⟩) (n1 - m) (c1 - m), .slice (some ⟨g, off, none⟩) n2 c2]] W (RetPQ PP QQ W)) := Lib.hid (fun W hb => by
        rw [hPe, hQe]
        have hsb : shB P Q m = Q := by unfold shB; rw [if_pos (by rw [← e1.out]; exact h0)]
        unfold shP shQ
        rw [hsb]
        exact lowest_row (T1 := T1) (T2 := T2) _ _ _ _ _ _ (shA P Q m) Q W (rd_drop (hR1.out.below hb) (by rw [← e1.out]; omega) (by rw [← e1.out])) (hR2.out.below hb) (by rw [← e2.out]; exact y1) (by unfold shA; rw [List.length_drop, ← e1.out]; omega) (by rw [← e2.out]; omega))
      have h0I : (m : Int) < (n1 : Int) := by omega
      have hml : (m : Int) ≤ (n1 : Int) := by omega
      have m0 : ∀ d os, (grow (redrawn v1 d) os).cell? ⟨w.heap.size, 0, none⟩ = some (.slice (some ⟨g', off', none⟩) n1 c1) := cell_regrown a0
      have m1 : ∀ d os, (grow (redrawn v1 d) os).cell? ⟨w.heap.size, 1, none⟩ = some (.slice (some ⟨g, off, none⟩) n2 c2) := cell_regrown a1
      replace hPe := Lib.hid hPe
      replace hQe := Lib.hid hQe
      replace hm9 := Lib.hid hm9
      clear hcell2
      go_upto_region 7 with fail
      clear a0 a1 b0 b1 f0 f1
      refine wp_region_reads_call 7 rfl (by kernel_rfl) (by kernel_rfl) (by kernel_rfl) (fun c a d v w h => by cases d <;> exact h) ?_
      simp only [List.take_succ_cons, List.take_zero, List.drop_succ_cons, List.drop_zero]
      iterate 3
        refine wpReads_cons (v := ?_) (Or.inl ⟨by rfl, ?_⟩) ?_
        rotate_left
        · rintro w' ⟨p, rfl⟩
          go_simp
          try with_reducible rfl
        try simp only [Act.put, List.setIfInBounds_toArray, List.set_cons_zero, List.set_cons_succ]
      refine wpReads_cons (v := .slice (some ⟨g', off' + m, none⟩) (n1 - m) (c1 - m)) (Or.inl ⟨by rfl, ?_⟩) ?_
      · rintro w' -
        have i3 : ¬ c1 = m := by omega
        clear hc2m hc1m
        simp only [execOp]
        simp [go_sem, i3, hml]
      try simp only [Act.put, List.setIfInBounds_toArray, List.set_cons_zero, List.set_cons_succ]
      iterate 3
        refine wpReads_cons (v := ?_) (Or.inl ⟨by rfl, ?_⟩) ?_
        rotate_left
        · rintro w' ⟨p, rfl⟩
          go_simp
          try with_reducible rfl
        try simp only [Act.put, List.setIfInBounds_toArray, List.set_cons_zero, List.set_cons_succ]
      refine wpReads_nil ?_
      intro K hK
      rw [if_pos (by rfl)]
      go_simp
      refine (hlo.out v1.drew hB1.out.drew).mono ?_
      rintro e w3 ⟨o1, o2, rfl, ⟨g1, B1, ho1⟩, ⟨g2, B2, ho2⟩, hb⟩
      subst ho1 ho2
      have hb3 : Below v1.heap.size v1 w3 := below_after (Nat.le_refl _) hb
      refine hK _ _ hb3 ?_
      have i1 := Blk.below j1.out hb3
      have b0 : w3.cell? ⟨w.heap.size + 1, 0, none⟩ = some (.slice none 0 0) := i1.cell 0
      have b1 : w3.cell? ⟨w.heap.size + 1, 1, none⟩ = some (.slice none 0 0) := i1.cell 1
      have f0 := i1.frozen 0
      have f1 := i1.frozen 1
      have hB2 := hB1.out.trans (hb3.mono hB1.out.size)
      have KZ := Lib.hid (Blk.set_ (Blk.set_ i1 0 (.slice B1 PP.length PP.length)) 1 (.slice B2 QQ.length QQ.length))
      have hBZ := Lib.hid ((hB2.setCell (p := ⟨w.heap.size + 1, 0, none⟩) (by simp) (.slice B1 PP.length PP.length)).setCell (p := ⟨w.heap.size + 1, 1, none⟩) (by simp) (.slice B2 QQ.length QQ.length))
      replace g1 := Lib.hid g1
      replace g2 := Lib.hid g2
      clear hb hb3 i1 hB2 hK m0 m1
      go_wp2_with fail
      have q0 := KZ.out.cell 0
      have q1 := KZ.out.cell 1
      refine bodyPost_ret (v := .tuple #[.agg #[.slice B1 PP.length PP.length, .slice B2 QQ.length QQ.length], .int .i64 0]) (by simp [results, Tryz.results18, go_sem, q0, q1]) rfl ?_
      refine ⟨_, _, rfl, ⟨(g1.out.keep (fun b hb1 hb2 => ?_)).le (by have := hB1.out.size; exact this), B1, rfl⟩, ⟨(g2.out.keep (fun b hb1 hb2 => ?_)).le (by have := hB1.out.size; exact this), B2, rfl⟩, hBZ.out⟩ <;>
        exact (Below.heap_setCell _ _ _ _ (by have := hsz.out; simp at hb1 ⊢; omega)).trans (Below.heap_setCell _ _ _ _ (by have := hsz.out; simp at hb1 ⊢; omega))
    · obtain ⟨j, hj⟩ : ∃ j, j = (m - n1) % n2 := ⟨_, rfl⟩
      obtain ⟨k, hk⟩ : ∃ k, k = m - n1 := ⟨_, rfl⟩
      have hjb : j < n2 := by rw [hj]; exact Nat.mod_lt _ y1
      have hji : (k : Int).tmod (n2 : Int) = (j : Int) := by rw [hj, ← hk]; exact tmod_nat _ _
      have hki : (m : Int) - (n1 : Int) = (k : Int) := by omega
      have hkw : IntKind.i64.wrap (k : Int) = (k : Int) := by rw [IntKind.wrap_i64]; omega
      have hkw2 : IntKind.i64.wrap ((m : Int) - (n1 : Int)) = (k : Int) := by rw [hki, hkw]
      have hkw3 : wrap64 ((m : Int) - (n1 : Int)) = (k : Int) := by rw [hki]; unfold wrap64; omega
      have hn20 : ¬ (n2 : Int) = 0 := by omega
      have h0I : ¬ (m : Int) < (n1 : Int) := by omega
      have hsh : Hid (shA P Q m = [] ∧ shB P Q m = Q.drop j ++ Q.take j) := Lib.hid (by
        constructor
        · unfold shA; exact List.drop_eq_nil_of_le (by rw [← e1.out]; omega)
        · unfold shB; rw [if_neg (by rw [← e1.out]; exact h0), ← e1.out, ← e2.out, ← hj])
      rw [← e2.out] at y2
      have hU : Hid (∀ W, Below v1.heap.size v1 W → W.cell? ⟨w.heap.size, 1, none⟩ = some (.slice (some ⟨g, off, none⟩) n2 c2)) := Lib.hid (fun W hb => (Blk.below j0.out hb).cell 1)
      have hrd : Hid (∀ W, Below w.heap.size w W → Rd .u8 T2 W (.slice (some ⟨g, off + j, none⟩) (n2 - j) (c2 - j)) (Q.drop j) ∧ Rd .u8 T2 W (.slice (some ⟨g, off, none⟩) j c2) (Q.take j)) := Lib.hid (fun W hb =>
        ⟨rd_drop (hR2.out.below hb) (by rw [← e2.out]; omega) (by rw [← e2.out]), rd_take (hR2.out.below hb) (by rw [← e2.out]; omega)⟩)
      have hdl : Hid ((Q.drop j).length = n2 - j ∧ (Q.take j).length = j) := Lib.hid (by rw [List.length_drop, List.length_take, ← e2.out]; exact ⟨rfl, by omega⟩)
      have hjI : (j : Int) < (n2 : Int) := by omega
      have hjI2 : (j : Int) ≤ (n2 : Int) := by omega
      have hjc : (j : Int) ≤ (c2 : Int) := by omega
      have hjc2 : j ≤ c2 := by omega
      have hcj : ¬ c2 = j := by omega
      have hj00 : (0 : Int) ≤ (j : Int) := by omega
      replace hPe := Lib.hid hPe
      replace hQe := Lib.hid hQe
      replace hj := Lib.hid hj
      replace hk := Lib.hid hk
      replace hc2m := Lib.hid hc2m
      clear hcell2 hm9
      go_upto_region 9 with fail
      have hclone : Hid (Calls Tryz.prog 43 #[.slice (some ⟨g, off + j, none⟩) (n2 - j) (c2 - j)] v1.drew (fun e w3 => ∃ v, e = .returned v ∧ Hid (w3.ownsRow v1.heap.size 5 1 v (n2 - j) (ivs .u8 (Q.drop j)) ∧ Below v1.heap.size v1 w3) ∧ w3.cell? ⟨w.heap.size, 1, none⟩ = some (.slice (some ⟨g, off, none⟩) n2 c2))) := Lib.hid (by
        refine (clone_any _ _ _ (Q.drop j) v1.drew (hrd.out _ hB1.out.drew).1 (by rw [hdl.out.1]; omega)).mono ?_
        rintro e w3 ⟨v, rfl, o, hb⟩
        have hb3 : Below v1.heap.size v1 w3 := below_after (Nat.le_refl _) hb
        exact ⟨v, rfl, Lib.hid ⟨o, hb3⟩, hU.out _ hb3⟩)
      have hlo : Hid (∀ W A c, W.ownsRow v1.heap.size 5 1 (.slice A n2 c) n2 (ivs .u8 (Q.drop j ++ Q.take j)) → Calls Tryz.prog 34 #[.agg #[.slice none 0 0, .slice A n2 c]] W (RetPQ PP QQ W)) := Lib.hid (fun W A c ho => by
        rw [hPe.out, hQe.out]
        unfold shP shQ
        rw [hsh.out.1, hsh.out.2]
        have hl : (Q.drop j ++ Q.take j).length = n2 := by rw [List.length_append, hdl.out.1, hdl.out.2]; omega
        exact lowest_row (T1 := 5) (T2 := 5) none A 0 0 n2 c [] _ W Rd.nil_ (own_rdn ho) (by rw [hl]; omega) (by simp) (by rw [hl]; omega))
      have hen : n2 - j + j = n2 := by omega
      have hmx : Hid (n2 - j + j ≤ maxLen ∧ (n2 - j + j) * 1 ≤ 140737488355328) := Lib.hid (by unfold maxLen; omega)
      have hgg : Hid (w.heap.size + 1 < v1.heap.size) := hsz
      clear b0 b1 f0 f1 a0 hj00
      go_region_held3 (fun w' => w'.cell? ⟨w.heap.size, 1, none⟩ = some (.slice (some ⟨g, off, none⟩) n2 c2)) (go_keep)
        (first
          | (go_at_call 43; refine hclone.out.mono ?_; rintro en w3 ⟨v3, rfl, o3, s3⟩)
          | (go_at_call 34; refine (hlo.out _ _ _ o4.out).mono ?_; rintro en w5 ⟨o1, o2, rfl, ⟨g1, B1, ho1⟩, ⟨g2, B2, ho2⟩, hb⟩; subst ho1 ho2; have hB5 := hB4.out.trans (hb.mono hB4.out.size); have s5 := hU.out _ hB5; have i1 := Blk.below j1.out hB5; have b0 : w5.cell? ⟨w.heap.size + 1, 0, none⟩ = some (.slice none 0 0) := i1.cell 0; have b1 : w5.cell? ⟨w.heap.size + 1, 1, none⟩ = some (.slice none 0 0) := i1.cell 1; have f0 := i1.frozen 0; have f1 := i1.frozen 1; have hz4 := Lib.hid hB4.out.size; replace i1 := Lib.hid i1; replace hB5 := Lib.hid hB5; replace g1 := Lib.hid g1; replace g2 := Lib.hid g2; clear hb)
          | (refine step_append_rd rfl (.tmp 43) (.tmp 47) 28 rfl .u8 v1.heap.size 5 T2 i0 (.int .u8 0) 1 Tryz.underlying28 hi hz0 hz1 hz2 rfl v3 (n2 - j) (ivs .u8 (Q.drop j)) (by simp [Act.eval]) o3.out.1 (some ⟨g, off, none⟩) j c2 (Q.take j) (by simp [Act.eval]) (hrd.out _ (hB1.out.trans (o3.out.2.mono hB1.out.size))).2 hmx.out.1 hmx.out.2 o3.out.2.size ?_; intro v4 w4 o4 g4; have hB4 : Below v1.heap.size v1 w4 := o3.out.2.grown g4 o3.out.2.size (fun k hk => (o3.out.1.lt k hk).1); have s4 := hU.out _ hB4; rw [hen, ← ivs_append] at o4; obtain ⟨vA, vc, rfl⟩ := own_form o4; replace hB4 := Lib.hid hB4; replace o4 := Lib.hid o4; clear g4))
      all_goals go_wp2_with fail
      have hB6 := hB1.out.trans (hB5.out.mono hB1.out.size)
      have KZ := Lib.hid (Blk.set_ (Blk.set_ i1.out 0 (.slice B1 PP.length PP.length)) 1 (.slice B2 QQ.length QQ.length))
      have hBZ := Lib.hid ((hB6.setCell (p := ⟨w.heap.size + 1, 0, none⟩) (by simp) (.slice B1 PP.length PP.length)).setCell (p := ⟨w.heap.size + 1, 1, none⟩) (by simp) (.slice B2 QQ.length QQ.length))
      have q0 := KZ.out.cell 0
      have q1 := KZ.out.cell 1
      refine bodyPost_ret (v := .tuple #[.agg #[.slice B1 PP.length PP.length, .slice B2 QQ.length QQ.length], .int .i64 0]) (by simp [results, Tryz.results18, go_sem, q0, q1]) rfl ?_
      refine ⟨_, _, rfl, ⟨(g1.out.keep (fun b hb1 hb2 => ?_)).le (by have := hB1.out.size; have := hz4.out; omega), B1, rfl⟩, ⟨(g2.out.keep (fun b hb1 hb2 => ?_)).le (by have := hB1.out.size; have := hz4.out; omega), B2, rfl⟩, hBZ.out⟩ <;>
        exact (Below.heap_setCell _ _ _ _ (by have := hgg.out; have := hz4.out; simp at hb1 ⊢; omega)).trans (Below.heap_setCell _ _ _ _ (by have := hgg.out; have := hz4.out; simp at hb1 ⊢; omega))
end Go.Proofs.YtbddlbhanpjdnaaGreatDoor
