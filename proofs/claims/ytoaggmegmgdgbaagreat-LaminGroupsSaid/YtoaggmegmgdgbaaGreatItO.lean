import Derived.Test.YtoaggmegmgdgbaaGreatItR
import Derived.Test.YtoaggmegmgdgbaaGreatOrbA
import Derived.Deep.RegionHeld3
namespace Go.Proofs.YtoaggmegmgdgbaaGreat
open Go.RowKit Go.Sort
attribute [local go_sem] Oper.semAt_some
def symL (s t x y d n : Nat) : List Nat := (orbL x y d n).map fun m => symV s t m.1 m.2 d
theorem symL_len (s t x y d n : Nat) : (symL s t x y d n).length = n := by simp [symL, orbL_len]
def ofE (ob oa : Bool) (y : Nat) (d : Int) : Int := if mayE ob oa d = 0 then (if 4096 < orbN y d.toNat then 211 else 0) else mayE ob oa d
def ofP (s t x y d : Nat) : List Nat := lowP ((symL s t x y d (orbN y d)).take (kindN y d).1) ((symL s t x y d (orbN y d)).drop (kindN y d).1)
def ofQ (s t x y d : Nat) : List Nat := lowQ ((symL s t x y d (orbN y d)).take (kindN y d).1) ((symL s t x y d (orbN y d)).drop (kindN y d).1)
def RetRowE (P Q : List Nat) (E : Int) (w : World) (e : Ending) (w' : World) : Prop :=
  ∃ v1 v2, e = .returned (.tuple #[.agg #[v1, v2], .int .i64 E]) ∧ Pc w' w.heap.size v1 P ∧ Pc w' w.heap.size v2 Q ∧ Below w.heap.size w w'
theorem leaves_none {P : Program} {fn : Func} {tmps : Array Value} {R : Ending → World → Prop} {W : World} {v : Value} (hr : (results fn tmps).run P W = .ok v W)
    (hR : R (.returned v) W) : LeavesInM Fence.wide 0 P fn tmps R [] .returning W := ⟨_, hr, hR⟩
theorem own_out {A B : World} {lo hi base : Nat} {T : TypeId} {size : Nat} {v : Value} {n : Nat} {xs : List Value} (h : A.ownsRow base T size v n xs) (hb : hi ≤ base) (ho : OutB lo hi A B) : B.ownsRow base T size v n xs := by
  refine ⟨h.1, ?_⟩
  rcases h.2 with hn | ⟨g, cap, cur, hv, hg, hh, rest⟩
  · exact .inl hn
  · exact .inr ⟨g, cap, cur, hv, hg, (ho.block g (heap_lt hh) (by omega)).trans hh, rest⟩
theorem blk_ne {w : World} {g g' : Nat} {T T' : TypeId} {cs cs' : Array Value} (h : Blk w g T cs) (h' : Blk w g' T' cs') (hne : T ≠ T') : g ≠ g' := by
  rintro rfl
  unfold Blk at h h'
  rw [h] at h'
  injection h' with h'
  injection h' with _ ht
  exact hne ht
theorem Pc.nil_ (w : World) (B : Nat) : Pc w B (.slice none 0 0) [] := ⟨Pf.nil_ w B none 0 (Nat.zero_le _), none, rfl⟩
theorem retRowE_nil {E : Int} {w W : World} {PP QQ : List Nat} (hP : PP = []) (hQ : QQ = []) (hB : Below w.heap.size w W) : RetRowE PP QQ E w (.returned (.tuple #[.agg #[.slice none 0 0, .slice none 0 0], .int .i64 E])) W := by
  subst hP hQ
  exact ⟨_, _, rfl, Pc.nil_ _ _, Pc.nil_ _ _, hB⟩
set_option maxRecDepth 100000 in
set_option maxHeartbeats 4000000 in
theorem iOf_any (n1 : Bool) (a1 d1 : ByteArray) (n2 : Bool) (a2 d2 : ByteArray) (d : Int) (w : World)
    (z1 : a1.size ≤ 9223372036854775807) (z2 : d1.size ≤ 9223372036854775807) (z3 : a2.size ≤ 9223372036854775807) (z4 : d2.size ≤ 9223372036854775807) (E : Int) (hE : E = ofE (okA n1 a1 d1) (okA n2 a2 d2) (be (sl d2)) d)
    (PP QQ : List Nat) (hPP : PP = if E = 0 then ofP (be (sl a1)) (be (sl d1)) (be (sl a2)) (be (sl d2)) d.toNat else []) (hQQ : QQ = if E = 0 then ofQ (be (sl a1)) (be (sl d1)) (be (sl a2)) (be (sl d2)) d.toNat else []) :
    Calls Tryz.prog 58 #[.agg #[.bool n1, .string a1, .string d1], .agg #[.bool n2, .string a2, .string d2], .int .i64 d] w
      (RetRowE PP QQ E w) := by
  obtain ⟨i0, hi, hz0, hz1, hz2⟩ := info_parts info_u8
  have hM := fun W => imay_any n1 a1 d1 n2 a2 d2 d W z1 z2 z3 z4
  obtain ⟨F, hF⟩ : ∃ F, F = mayE (okA n1 a1 d1) (okA n2 a2 d2) d := ⟨_, rfl⟩
  rw [← hF] at hM
  have kb := (((Blk.new w 26 #[.bool n1, .string a1, .string d1]).alloc (.cells #[.bool n2, .string a2, .string d2] 26)).alloc (.cells #[.int .i64 d] 3)).alloc (.cells #[.slice none 0 0, .slice none 0 0] 120)
  have ka := ((Blk.new (w.alloc (.cells #[.bool n1, .string a1, .string d1] 26)) 26 #[.bool n2, .string a2, .string d2]).alloc (.cells #[.int .i64 d] 3)).alloc (.cells #[.slice none 0 0, .slice none 0 0] 120)
  have kd := (Blk.new ((w.alloc (.cells #[.bool n1, .string a1, .string d1] 26)).alloc (.cells #[.bool n2, .string a2, .string d2] 26)) 3 #[.int .i64 d]).alloc (.cells #[.slice none 0 0, .slice none 0 0] 120)
  have kr := Blk.new (((w.alloc (.cells #[.bool n1, .string a1, .string d1] 26)).alloc (.cells #[.bool n2, .string a2, .string d2] 26)).alloc (.cells #[.int .i64 d] 3)) 120 #[.slice none 0 0, .slice none 0 0]
  have hBW : Below w.heap.size w ((((w.alloc (.cells #[.bool n1, .string a1, .string d1] 26)).alloc (.cells #[.bool n2, .string a2, .string d2] 26)).alloc (.cells #[.int .i64 d] 3)).alloc (.cells #[.slice none 0 0, .slice none 0 0] 120)) := ((((Below.refl _ w).alloc (Nat.le_refl _) _).alloc (by simp) _).alloc (by simp; omega) _).alloc (by simp; omega) _
  simp only [World.size_alloc] at ka kd kr
  replace hPP := Lib.hid hPP
  replace hQQ := Lib.hid hQQ
  have hsz : ((((w.alloc (.cells #[.bool n1, .string a1, .string d1] 26)).alloc (.cells #[.bool n2, .string a2, .string d2] 26)).alloc (.cells #[.int .i64 d] 3)).alloc (.cells #[.slice none 0 0, .slice none 0 0] 120)).heap.size = w.heap.size + 1 + 1 + 1 + 1 := by simp
  replace ka := Lib.hid ka
  replace kb := Lib.hid kb
  replace kd := Lib.hid kd
  replace kr := Lib.hid kr
  replace hBW := Lib.hid hBW
  replace hM := Lib.hid hM
  replace hF := Lib.hid hF
  replace hE := Lib.hid hE
  replace hsz := Lib.hid hsz
  refine callsIn_wide.1 (callsIn_of_wp_marks (n := 0) Tryz.func58 rfl trivial ?_ rfl)
  simp only [Tryz.ntmps58, List.size_toArray, List.length_cons, List.length_nil, Nat.reduceAdd, Nat.reduceSub, Array.replicate_succ, Array.replicate_zero, List.push_toArray, List.append_toArray, List.nil_append, List.cons_append]
  refine wpIn_wide.2 ?_
  go_wp2_with fail
  refine (hM.out _).mono ?_
  rintro en v1 ⟨rfl, hb⟩
  replace ka := Lib.hid (Blk.below ka.out hb)
  replace kb := Lib.hid (Blk.below kb.out hb)
  replace kd := Lib.hid (Blk.below kd.out hb)
  replace kr := Lib.hid (Blk.below kr.out hb)
  replace hBW := Lib.hid (hBW.out.trans (hb.mono (by rw [hsz.out]; omega)))
  have e0 : v1.cell? ⟨w.heap.size + 1, 0, none⟩ = some (.bool n2) := ka.out.cell 0
  have e1 : v1.cell? ⟨w.heap.size + 1, 1, none⟩ = some (.string a2) := ka.out.cell 1
  have e2 : v1.cell? ⟨w.heap.size + 1, 2, none⟩ = some (.string d2) := ka.out.cell 2
  have c0 : v1.cell? ⟨w.heap.size + 1 + 1, 0, none⟩ = some (.int .i64 d) := kd.out.cell 0
  have r0 : v1.cell? ⟨w.heap.size + 1 + 1 + 1, 0, none⟩ = some (.slice none 0 0) := kr.out.cell 0
  have r1 : v1.cell? ⟨w.heap.size + 1 + 1 + 1, 1, none⟩ = some (.slice none 0 0) := kr.out.cell 1
  have f0 := kr.out.frozen 0
  have f1 := kr.out.frozen 1
  clear hb hM hsz
  by_cases hF0 : F = 0
  · obtain ⟨o1, o2, hd1, hd2⟩ := mayE_ok (hF.out.symm.trans hF0)
    obtain ⟨dn, rfl⟩ : ∃ dn : Nat, d = (dn : Int) := ⟨d.toNat, by omega⟩
    obtain ⟨-, -, g1, g2⟩ := okA_parts o1
    obtain ⟨-, -, g3, g4⟩ := okA_parts o2
    obtain ⟨s, hs⟩ : ∃ s, s = be (sl a1) := ⟨_, rfl⟩
    obtain ⟨t, ht⟩ : ∃ t, t = be (sl d1) := ⟨_, rfl⟩
    obtain ⟨x, hx⟩ : ∃ x, x = be (sl a2) := ⟨_, rfl⟩
    obtain ⟨y, hy⟩ : ∃ y, y = be (sl d2) := ⟨_, rfl⟩
    obtain ⟨p, hp⟩ : ∃ p, p = (kindN y dn).1 := ⟨_, rfl⟩
    obtain ⟨k, hk⟩ : ∃ k, k = (kindN y dn).2 := ⟨_, rfl⟩
    have hkv : kindV n2 a2 d2 (dn : Int) = .tuple #[.int .i64 (p : Int), .int .i64 (k : Int), .int .i64 0] := by
      rw [kindV, o2, roundB_iff.2 ⟨hd1, hd2⟩, Int.toNat_natCast, ← hy, ← hp, ← hk]; rfl
    have hE2 : E = if 4096 < p + k then 211 else 0 := by
      rw [hE.out, ofE, ← hF.out, if_pos hF0, Int.toNat_natCast, ← hy, orbN, ← hp, ← hk]
    subst hF0
    replace hkv := Lib.hid hkv
    replace hE2 := Lib.hid hE2
    replace hs := Lib.hid hs
    replace ht := Lib.hid ht
    replace hx := Lib.hid hx
    replace hy := Lib.hid hy
    replace hp := Lib.hid hp
    replace hk := Lib.hid hk
    have hy0 : 0 < y := by rw [hy.out]; exact Nat.lt_of_le_of_lt (Nat.zero_le _) g3
    have hpk : Hid (p ≤ 2147483647 ∧ k ≤ 2147483647) := Lib.hid (by
      have hyb : y ≤ 2147483647 := by rw [hy.out]; exact g4
      constructor
      · have := kindF_cnt y y dn 0
        rw [hp.out]
        unfold kindN
        omega
      · obtain ⟨r, hr1, hr2, -, hr3⟩ := kind_rest (d := dn) y hy0
        have h8 := (ordG_le (n := r) (d := dn) hr2).2
        have h9 := Nat.le_of_dvd hy0 hr1
        rw [hk.out, hr3]
        omega)
    obtain ⟨-, -, -, hgc, -, -⟩ := okA_spec o2
    rw [← hx.out, ← hy.out] at hgc
    replace hgc := Lib.hid hgc
    replace g1 := Lib.hid g1
    replace g2 := Lib.hid g2
    replace g3 := Lib.hid g3
    replace g4 := Lib.hid g4
    clear hE hF r0 r1 f0 f1
    go_wp2_with fail
    refine (kindW_any n2 a2 d2 (dn : Int) _ z3 z4).mono ?_
    rintro en v2 ⟨rfl, hb⟩
    rw [hkv.out]
    replace ka := Lib.hid (Blk.below ka.out hb)
    replace kb := Lib.hid (Blk.below kb.out hb)
    replace kd := Lib.hid (Blk.below kd.out hb)
    replace kr := Lib.hid (Blk.below kr.out hb)
    replace hBW := Lib.hid (hBW.out.trans (hb.mono hBW.out.size))
    clear hb e0 e1 e2 c0
    have e0 : v2.cell? ⟨w.heap.size + 1, 0, none⟩ = some (.bool n2) := ka.out.cell 0
    have e1 : v2.cell? ⟨w.heap.size + 1, 1, none⟩ = some (.string a2) := ka.out.cell 1
    have e2 : v2.cell? ⟨w.heap.size + 1, 2, none⟩ = some (.string d2) := ka.out.cell 2
    have c0 : v2.cell? ⟨w.heap.size + 1 + 1, 0, none⟩ = some (.int .i64 (dn : Int)) := kd.out.cell 0
    have r0 : v2.cell? ⟨w.heap.size + 1 + 1 + 1, 0, none⟩ = some (.slice none 0 0) := kr.out.cell 0
    have r1 : v2.cell? ⟨w.heap.size + 1 + 1 + 1, 1, none⟩ = some (.slice none 0 0) := kr.out.cell 1
    have f0 := kr.out.frozen 0
    have f1 := kr.out.frozen 1
    by_cases hm : 4096 < p + k
    · obtain rfl : E = 211 := by rw [hE2.out, if_pos hm]
      have hpw : wrap64 ((p : Int) + (k : Int)) = (p : Int) + (k : Int) := by
        rw [show (p : Int) + (k : Int) = ((p + k : Nat) : Int) by push_cast; rfl]
        exact wrap64_nat (Nat.lt_of_le_of_lt (Nat.add_le_add hpk.out.1 hpk.out.2) (by decide))
      have hmI : (4096 : Int) < (p : Int) + (k : Int) := by exact_mod_cast hm
      have K2 := Blk.set_ (Blk.set_ kr.out 0 (.slice none 0 0)) 1 (.slice none 0 0)
      have hB2 := (hBW.out.setCell (p := ⟨w.heap.size + 1 + 1 + 1, 0, none⟩) (by simp; omega) (.slice none 0 0)).setCell (p := ⟨w.heap.size + 1 + 1 + 1, 1, none⟩) (by simp; omega) (.slice none 0 0)
      replace K2 := Lib.hid K2
      replace hB2 := Lib.hid hB2
      go_wp2_with fail
      have q0 := K2.out.cell 0
      have q1 := K2.out.cell 1
      refine leaves_none (v := .tuple #[.agg #[.slice none 0 0, .slice none 0 0], .int .i64 211]) (by simp [results, Tryz.results58, go_sem, q0, q1]) (retRowE_nil (by rw [hPP.out]; rfl) (by rw [hQQ.out]; rfl) hB2.out)
    · obtain rfl : E = 0 := by rw [hE2.out, if_neg hm]
      have hmI : ¬ (4096 : Int) < (p : Int) + (k : Int) := fun h => hm (by exact_mod_cast h)
      clear r0 r1 f0 f1
      have kl := Blk.new v2 118 #[.slice none 0 0]
      have hBl := hBW.out.alloc hBW.out.size (.cells #[.slice none 0 0] 118)
      have kal := Blk.alloc ka.out (.cells #[.slice none 0 0] 118)
      have kbl := Blk.alloc kb.out (.cells #[.slice none 0 0] 118)
      have kdl := Blk.alloc kd.out (.cells #[.slice none 0 0] 118)
      have krl := Blk.alloc kr.out (.cells #[.slice none 0 0] 118)
      clear e0 e1 e2 c0
      have e0 : (v2.alloc (.cells #[.slice none 0 0] 118)).cell? ⟨w.heap.size + 1, 0, none⟩ = some (.bool n2) := kal.cell 0
      have e1 : (v2.alloc (.cells #[.slice none 0 0] 118)).cell? ⟨w.heap.size + 1, 1, none⟩ = some (.string a2) := kal.cell 1
      have e2 : (v2.alloc (.cells #[.slice none 0 0] 118)).cell? ⟨w.heap.size + 1, 2, none⟩ = some (.string d2) := kal.cell 2
      have c0 : (v2.alloc (.cells #[.slice none 0 0] 118)).cell? ⟨w.heap.size + 1 + 1, 0, none⟩ = some (.int .i64 (dn : Int)) := kdl.cell 0
      replace kl := Lib.hid kl
      replace hBl := Lib.hid hBl
      replace kal := Lib.hid kal
      replace kbl := Lib.hid kbl
      replace kdl := Lib.hid kdl
      replace krl := Lib.hid krl
      go_wp2_with fail
      refine (orbit_any n2 a2 d2 (dn : Int) _).mono ?_
      rintro e9 U ⟨gA, gD, rfl, hA, hD, hb⟩
      have uA := Lib.hid hA
      have uD := Lib.hid hD
      obtain ⟨gl, hgl⟩ : ∃ g, g = v2.heap.size := ⟨_, rfl⟩
      rw [← hgl] at kl
      have ul := Lib.hid (Blk.below kl.out hb)
      have ua := Lib.hid (Blk.below kal.out hb)
      have ub := Lib.hid (Blk.below kbl.out hb)
      have ud := Lib.hid (Blk.below kdl.out hb)
      have ur := Lib.hid (Blk.below krl.out hb)
      have uB := Lib.hid (hBl.out.trans (hb.mono hBl.out.size))
      rw [← hgl]
      have hglw : Hid (w.heap.size + 1 + 1 + 1 < gl) := Lib.hid (by rw [hgl]; exact kr.out.lt)
      clear hb hA hD kl kal kbl kdl krl hBl ka kb kd kr hBW e0 e1 e2 c0 hgl
      have hR : Hid (orbR n2 a2 d2 (dn : Int) = orbL x y dn (p + k)) := Lib.hid (by
        rw [orbR, o2, roundB_iff.2 ⟨hd1, hd2⟩, Int.toNat_natCast, ← hx.out, ← hy.out, orbN, ← hp.out, ← hk.out]; rfl)
      obtain ⟨f, hf⟩ : ∃ f : Nat × Nat → Nat, f = fun m => symV s t m.1 m.2 dn := ⟨_, rfl⟩
      have hsym : ∀ (N D : Nat) W, Nat.gcd N D = 1 → N < D → D ≤ y → Calls Tryz.prog 102 #[.agg #[.bool n1, .string a1, .string d1], .agg #[.bool false, .string (natS N), .string (natS D)], .int .i64 (dn : Int)] W (RetVal (.int .u8 ((f (N, D) : Nat) : Int)) W) := fun N D W h1 h2 h3 => by
        have hD : D ≤ 2147483647 := by have := g4.out; rw [← hy.out] at this; omega
        have ok := okA_natS h1 h2 hD
        have := isymbol_any n1 a1 d1 false (natS N) (natS D) s t N D dn W z1 z2 (okA_size ok).1 (okA_size ok).2 o1 ok (Lib.hid hs.out) (Lib.hid ht.out) (Lib.hid (be_natS N).symm) (Lib.hid (be_natS D).symm) (by omega) (by omega)
        rw [hf]
        exact this
      replace hf := Lib.hid hf
      replace hsym := Lib.hid hsym
      go_wp2_with fail
      · refine (wpIn_wide (n := 0)).1 ?_
        refine wpIn_iterB (gf := 144) (lb := #[.pointer (some ⟨gA, 0, none⟩), .pointer (some ⟨gD, 0, none⟩)]) rfl (enters_of Tryz.func144 (by kernel_rfl) rfl) (orbit_iter n2 a2 d2 (dn : Int) gA gD U z3 z4 uA.out uD.out) (Below.refl _ _) (fun k hk => by rcases hk with rfl | rfl <;> first | exact uA.out.lt | exact uD.out.lt) (fun _ => rfl)
          (fun m pre W => U.grownBy W (some gl) ∧ ∃ vl, Blk W gl 118 #[vl] ∧ W.ownsRow (U.heap.size + 2 + m) 5 1 vl pre.length (ivs .u8 (pre.map f))) (fun _ _ _ _ => False)
          (fun m s A B h ho => by
            obtain ⟨h1, vl, h2, h3⟩ := h
            exact ⟨gb_out h1 ho, vl, blk_out h2 ul.out.lt ho, own_out h3 (Nat.le_refl _) ho⟩)
          (fun _ _ _ _ _ h _ => h) (fun m => ⟨gb_refl _ _, _, ul.out, World.ownsRow_nil _ _ _ _⟩) ?rd ?dn ?st
        case st => intro m c pre W _ h; exact h.elim
        case dn =>
          rintro m W ⟨h1, vl, h2, h3⟩ hK
          rw [hR.out, orbL_len] at h3
          have e : (orbL x y dn (p + k)).map f = symL s t x y dn (p + k) := by rw [symL, hf.out]
          rw [e] at h3
          have hown := Lib.hid (own_le h3 (show U.heap.size + 2 ≤ U.heap.size + 2 + m by omega))
          have hkl := Lib.hid h2
          have hg := Lib.hid h1
          have hKD := Lib.hid hK
          clear h1 h2 h3 hK e
          obtain ⟨g, c, rfl⟩ : ∃ g c, vl = .slice (some ⟨g, 0, none⟩) (p + k) c := by
            rcases own_forms hown.out with ⟨-, h⟩ | h
            · have := kindN_pos (d := dn) hy0
              rw [← hk.out] at this
              omega
            · exact h
          have hrd := own_rdn hown.out
          have hcl := (rd_cells hrd).2.1
          rw [symL_len] at hcl
          have hcm := (rd_cells hrd).2.2.1
          have hk1 : 1 ≤ k := by rw [hk.out]; exact kindN_pos hy0
          have rP := Lib.hid (Rd.take hrd (n := p) (by rw [symL_len]; omega) (c' := p) (Nat.le_refl _) (by omega))
          have rQ := Lib.hid (rd_drop0 hrd (p := p) (m := k) (by rw [symL_len]; omega) (by rw [symL_len]; omega))
          have kr := Blk.grown ur.out hg.out (fun e => by injection e with e; have := hglw.out; omega)
          have hBw := uB.out.grown hg.out (by have := uB.out.size; omega) (fun b hb => by injection hb with hb; have := hglw.out; omega)
          have ml : W.cell? ⟨gl, 0, none⟩ = some (.slice (some ⟨g, 0, none⟩) (p + k) c) := hkl.out.cell 0
          have hUr := ur.out.lt
          have hUW := hg.out.size
          have hPb : ((symL s t x y dn (p + k)).take p).length ≤ 1099511627776 := by rw [List.length_take, symL_len]; omega
          have hQb : ((symL s t x y dn (p + k)).drop p).length ≤ 1099511627776 ∧ 0 < ((symL s t x y dn (p + k)).drop p).length := by rw [List.length_drop, symL_len]; omega
          have hres : Hid (PP = lowP ((symL s t x y dn (p + k)).take p) ((symL s t x y dn (p + k)).drop p) ∧ QQ = lowQ ((symL s t x y dn (p + k)).take p) ((symL s t x y dn (p + k)).drop p)) := Lib.hid (by
            have hN : orbN y dn = p + k := by rw [orbN, ← hp.out, ← hk.out]
            rw [hPP.out, hQQ.out, ← hs.out, ← ht.out, ← hx.out, ← hy.out, Int.toNat_natCast, ofP, ofQ, hN, ← hp.out]
            first | exact ⟨if_pos trivial, if_pos trivial⟩ | exact ⟨if_pos rfl, if_pos rfl⟩)
          obtain ⟨LP, hLP⟩ : ∃ l, l = (symL s t x y dn (p + k)).take p := ⟨_, rfl⟩
          obtain ⟨LQ, hLQ⟩ : ∃ l, l = (symL s t x y dn (p + k)).drop p := ⟨_, rfl⟩
          rw [← hLP] at rP hPb hres
          rw [← hLQ] at rQ hQb hres
          have hlo := fun Z h1 h2 => lowest_row (T1 := 5) (T2 := 5) (some ⟨g, 0, none⟩) (some ⟨g, p, none⟩) p p k (c - p) LP LQ Z h1 h2 hQb.2 hPb hQb.1
          have hp9 : (p : Int) ≤ (c : Int) := by omega
          have hkr3 : Hid (∀ B w3, Below B.heap.size B w3 → B.heap = W.heap → w3.cell? ⟨w.heap.size + 1 + 1 + 1, 0, none⟩ = some (.slice none 0 0) ∧ w3.cell? ⟨w.heap.size + 1 + 1 + 1, 1, none⟩ = some (.slice none 0 0) ∧ w3.frozen? ⟨w.heap.size + 1 + 1 + 1, 0, none⟩ = false ∧ w3.frozen? ⟨w.heap.size + 1 + 1 + 1, 1, none⟩ = false) := Lib.hid (fun B w3 hb he => by
            have h1 : Blk w3 (w.heap.size + 1 + 1 + 1) 120 #[.slice none 0 0, .slice none 0 0] := ((hb.block _ (by rw [he]; exact kr.lt)).trans (by rw [he])).trans kr
            exact ⟨h1.cell 0, h1.cell 1, h1.frozen 0, h1.frozen 1⟩)
          have hlo2 : ∀ B, B.heap = W.heap → Calls Tryz.prog 103 #[.agg #[.slice (some ⟨g, 0, none⟩) p p, .slice (some ⟨g, p, none⟩) k (c - p)]] B fun e w3 => ∃ o1 o2, e = .returned (.agg #[o1, o2]) ∧ Hid (Pc w3 W.heap.size o1 PP ∧ Pc w3 W.heap.size o2 QQ ∧ Below B.heap.size B w3) ∧ w3.cell? ⟨w.heap.size + 1 + 1 + 1, 0, none⟩ = some (.slice none 0 0) ∧ w3.cell? ⟨w.heap.size + 1 + 1 + 1, 1, none⟩ = some (.slice none 0 0) ∧ w3.frozen? ⟨w.heap.size + 1 + 1 + 1, 0, none⟩ = false ∧ w3.frozen? ⟨w.heap.size + 1 + 1 + 1, 1, none⟩ = false := fun B he => by
            have hk : ∀ (T : TypeId) v l, Rd .u8 T W v l → Rd .u8 T B v l := fun T v l h => h.keep (fun g L hr => hr.of_block (by rw [he]))
            refine (hlo B (hk _ _ _ rP.out) (hk _ _ _ rQ.out)).mono ?_
            rintro e w3 ⟨o1, o2, rfl, h1, h2, hb⟩
            have hsz : B.heap.size = W.heap.size := by rw [he]
            rw [hsz] at h1 h2
            exact ⟨o1, o2, rfl, Lib.hid ⟨by rw [hres.out.1]; exact h1, by rw [hres.out.2]; exact h2, hb⟩, hkr3.out B w3 hb he⟩
          replace kr := Lib.hid kr
          replace hBw := Lib.hid hBw
          clear hlo
          replace hlo2 := Lib.hid hlo2
          clear hrd hLP hLQ hPb hQb hown
          have hpkI : (p : Int) ≤ (p : Int) + (k : Int) := by omega
          go_wp2_with fail
          replace hcm := Lib.hid hcm
          clear hUr hUW hmI
          refine wp_region_noPanic ?_
          refine wp_region_reads_call 8 rfl (by kernel_rfl) (by kernel_rfl) (by kernel_rfl) ?hQ ?_
          case hQ => intro c a d v w h; exact h
          have mlg : ∀ d os, (grow (redrawn W d) os).cell? ⟨gl, 0, none⟩ = some (.slice (some ⟨g, 0, none⟩) (p + k) c) := cell_regrown ml
          simp only [List.take_succ_cons, List.take_zero, List.drop_succ_cons, List.drop_zero]
          iterate 6
            refine wpReads_cons (v := ?_) (Or.inl ⟨by rfl, ?_⟩) ?_
            rotate_left
            · rintro w' ⟨p, rfl⟩
              go_simp
              try with_reducible rfl
            try simp only [Act.put, List.setIfInBounds_toArray, List.set_cons_zero, List.set_cons_succ]
          refine wpReads_cons (v := .slice (some ⟨g, p, none⟩) k (c - p)) (Or.inl ⟨by rfl, ?_⟩) ?_
          · rintro w' -
            have i2 : p + k - p = k := Nat.add_sub_cancel_left p k
            have i3 : ¬ c = p := by have := hcl; omega
            have i4 : (p : Int) ≤ (p : Int) + (k : Int) := by omega
            clear hcl hp9 hpkI hk1 hy0 hglw hd1 hd2 ml
            simp only [execOp]
            simp [go_sem, i2, i3, i4]
          try simp only [Act.put, List.setIfInBounds_toArray, List.set_cons_zero, List.set_cons_succ]
          iterate 1
            refine wpReads_cons (v := ?_) (Or.inl ⟨by rfl, ?_⟩) ?_
            rotate_left
            · rintro w' ⟨p, rfl⟩
              go_simp
              try with_reducible rfl
            try simp only [Act.put, List.setIfInBounds_toArray, List.set_cons_zero, List.set_cons_succ]
          refine wpReads_nil ?_
          intro K hK
          rw [if_pos (by rfl)]
          go_simp
          refine (hlo2.out W.drew rfl).mono ?_
          rintro e w3 ⟨o1, o2, rfl, hv, s0, s1, t0, t1⟩
          obtain ⟨⟨f1, B1, ho1⟩, ⟨f2, B2, ho2⟩, -⟩ := hv.out
          subst ho1 ho2
          replace f1 := Lib.hid f1
          replace f2 := Lib.hid f2
          refine hK _ _ (below_after (Nat.le_refl _) hv.out.2.2) ?_
          have hb3 : Below W.heap.size W w3 := below_after (Nat.le_refl _) hv.out.2.2
          have kz := Blk.set_ (Blk.set_ (Blk.below kr.out hb3) 0 (.slice B1 PP.length PP.length)) 1 (.slice B2 QQ.length QQ.length)
          have hUs : U.heap.size < W.heap.size := heap_lt hKD.out
          have hr3 := ur.out.lt
          have hdz : ((w3.setCell ⟨w.heap.size + 1 + 1 + 1, 0, none⟩ (.slice B1 PP.length PP.length)).setCell ⟨w.heap.size + 1 + 1 + 1, 1, none⟩ (.slice B2 QQ.length QQ.length)).heap[U.heap.size]? = some (.deferred (some [])) :=
            (Below.heap_setCell _ _ _ _ (by simp; omega)).trans ((Below.heap_setCell _ _ _ _ (by simp; omega)).trans ((hb3.block _ hUs).trans hKD.out))
          have hbz := ((hBw.out.trans (hb3.mono hBw.out.size)).setCell (p := ⟨w.heap.size + 1 + 1 + 1, 0, none⟩) (by simp; omega) (.slice B1 PP.length PP.length)).setCell (p := ⟨w.heap.size + 1 + 1 + 1, 1, none⟩) (by simp; omega) (.slice B2 QQ.length QQ.length)
          replace kz := Lib.hid kz
          replace hdz := Lib.hid hdz
          replace hbz := Lib.hid hbz
          replace hb3 := Lib.hid hb3
          clear hK mlg
          go_wp2_with fail
          refine NoPanic.normal ?_
          go_wp2_with fail
          have q0 := (blk_put kz.out (show w.heap.size + 1 + 1 + 1 ≠ U.heap.size by have := ur.out.lt; omega) (.deferred none)).cell 0
          have q1 := (blk_put kz.out (show w.heap.size + 1 + 1 + 1 ≠ U.heap.size by have := ur.out.lt; omega) (.deferred none)).cell 1
          refine leaves_one (P := Tryz.prog) (fn := Tryz.f58) hdz.out (v := .tuple #[.agg #[.slice B1 PP.length PP.length, .slice B2 QQ.length QQ.length], .int .i64 0]) (by simp [results, Tryz.results58, go_sem, q0, q1]) ?_
          exact ⟨_, _, rfl, ⟨(f1.out.keep (fun b hb1 hb2 => (World.putObj_heap_other (by omega)).trans ((Below.heap_setCell _ _ _ _ (by simp; omega)).trans (Below.heap_setCell _ _ _ _ (by simp; omega))))).le (by have := hBw.out.size; omega), B1, rfl⟩, ⟨(f2.out.keep (fun b hb1 hb2 => (World.putObj_heap_other (by omega)).trans ((Below.heap_setCell _ _ _ _ (by simp; omega)).trans (Below.heap_setCell _ _ _ _ (by simp; omega))))).le (by have := hBw.out.size; omega), B2, rfl⟩, below_put hbz.out (by have := uB.out.size; omega) _⟩
        case rd =>
          rintro m l pre q W ⟨hg, vl, hkl, hown⟩ hsz hpre Kk hKk
          rw [hR.out] at hpre
          obtain ⟨hp1, hp2, hp3⟩ := orbL_head hpre
          obtain ⟨N, D⟩ := q
          have hfac := orbM_facts (x := x) (d := dn) (n := pre.length) hy0
          rw [← hp2] at hfac
          obtain ⟨fa1, fa2, fa3⟩ := hfac
          simp only at fa1 fa2 fa3
          obtain ⟨j, hj⟩ : ∃ j, j = pre.length := ⟨_, rfl⟩
          rw [← hj] at hown hp3
          have hsy := fun W => hsym.out N D W fa1 fa2 fa3
          obtain ⟨z, hz⟩ : ∃ z, z = f (N, D) := ⟨_, rfl⟩
          have hmap : (pre ++ [(N, D)]).map f = pre.map f ++ [z] := by rw [hz]; simp
          rw [← hz] at hsy
          have hgN1 := blk_ne hkl (Blk.grown uA.out hg (fun e => by
            injection e with e
            exact absurd e (blk_ne uA.out ul.out (by decide)))) (by decide)
          have hgN2 := blk_ne hkl (Blk.grown uD.out hg (fun e => by
            injection e with e
            exact absurd e (blk_ne uD.out ul.out (by decide)))) (by decide)
          replace hg := Lib.hid hg
          replace hkl := Lib.hid hkl
          replace hown := Lib.hid hown
          replace hsy := Lib.hid hsy
          replace hmap := Lib.hid hmap
          replace hj := Lib.hid hj
          replace hz := Lib.hid hz
          replace hKk := Lib.hid hKk
          clear hp1 hp2 hpre
          simp only [ratV]
          gi_wp2_with fail
          refine hKk.out _ _ ((KeepB.refl _ W).alloc (fun k hk => by have h1 := uA.out.lt; have h2 := uD.out.lt; rcases hk with (h | h) | h <;> omega) _) ?_
          intro o
          obtain ⟨gx, hgx⟩ : ∃ g, g = W.heap.size := ⟨_, rfl⟩
          have hlU := ul.out.lt
          have xb := blk_put (Blk.new W 26 #[.bool false, .string (natS N), .string (natS D)]) (show W.heap.size ≠ U.heap.size + 1 by omega) o
          have xl := blk_put (hkl.out.alloc (.cells #[.bool false, .string (natS N), .string (natS D)] 26)) (show gl ≠ U.heap.size + 1 by omega) o
          have xby := blk_put ((Blk.grown ub.out hg.out (fun e => by injection e with e; have := hglw.out; omega)).alloc (.cells #[.bool false, .string (natS N), .string (natS D)] 26)) (show w.heap.size ≠ U.heap.size + 1 by have := hglw.out; omega) o
          have xd := blk_put ((Blk.grown ud.out hg.out (fun e => by injection e with e; have := hglw.out; omega)).alloc (.cells #[.bool false, .string (natS N), .string (natS D)] 26)) (show w.heap.size + 1 + 1 ≠ U.heap.size + 1 by have := hglw.out; omega) o
          have xo := own_put (hown.out.alloc (.cells #[.bool false, .string (natS N), .string (natS D)] 26)) (r := U.heap.size + 1) (fun e => by have := (hown.out.lt _ e).1; omega) o
          have xg : U.grownBy ((W.alloc (.cells #[.bool false, .string (natS N), .string (natS D)] 26)).putObj (U.heap.size + 1) o) (some gl) := gb_out (hi := U.heap.size + 2) hg.out (((OutB.refl _ _ W).alloc _).put (by omega) (by omega) o)
          have xs : ((W.alloc (.cells #[.bool false, .string (natS N), .string (natS D)] 26)).putObj (U.heap.size + 1) o).heap.size = W.heap.size + 1 := by simp
          generalize hxx : (W.alloc (.cells #[.bool false, .string (natS N), .string (natS D)] 26)).putObj (U.heap.size + 1) o = X at xb xl xby xd xo xg xs ⊢
          rw [← hgx] at xb xs hsz ⊢
          clear hxx hgx hg hkl hKk hown
          obtain ⟨Al, cl, rfl⟩ : ∃ A c, vl = .slice A j c := by
            rcases own_forms xo with ⟨rfl, h⟩ | ⟨g, c, rfl⟩
            · exact ⟨none, 0, by rw [h]⟩
            · exact ⟨_, c, rfl⟩
          have mb0 : ∀ d os, (grow (redrawn X d) os).cell? ⟨gx, 0, none⟩ = some (.bool false) := cell_regrown (Blk.cell xb 0)
          have mb1 : ∀ d os, (grow (redrawn X d) os).cell? ⟨gx, 1, none⟩ = some (.string (natS N)) := cell_regrown (Blk.cell xb 1)
          have mb2 : ∀ d os, (grow (redrawn X d) os).cell? ⟨gx, 2, none⟩ = some (.string (natS D)) := cell_regrown (Blk.cell xb 2)
          have my0 : ∀ d os, (grow (redrawn X d) os).cell? ⟨w.heap.size, 0, none⟩ = some (.bool n1) := cell_regrown (Blk.cell xby 0)
          have my1 : ∀ d os, (grow (redrawn X d) os).cell? ⟨w.heap.size, 1, none⟩ = some (.string a1) := cell_regrown (Blk.cell xby 1)
          have my2 : ∀ d os, (grow (redrawn X d) os).cell? ⟨w.heap.size, 2, none⟩ = some (.string d1) := cell_regrown (Blk.cell xby 2)
          have md0 : ∀ d os, (grow (redrawn X d) os).cell? ⟨w.heap.size + 1 + 1, 0, none⟩ = some (.int .i64 (dn : Int)) := cell_regrown (Blk.cell xd 0)
          have ml0 : ∀ d os, (grow (redrawn X d) os).cell? ⟨gl, 0, none⟩ = some (.slice Al j cl) := cell_regrown (Blk.cell xl 0)
          have cc : ∀ d os, Calls Tryz.prog 102 #[.agg #[.bool n1, .string a1, .string d1], .agg #[.bool false, .string (natS N), .string (natS D)], .int .i64 (dn : Int)] (grow (redrawn X d) os) fun e w'' => e = .returned (.int .u8 (z : Int)) ∧ ∃ p : Regrown, w'' = grow (redrawn X p.d) p.os :=
            fun d os => Calls.regrown_of (hsy.out _)
          replace xb := Lib.hid xb
          replace xl := Lib.hid xl
          replace xo := Lib.hid xo
          replace xg := Lib.hid xg
          replace xs := Lib.hid xs
          clear xby xd
          gi_wp2_with fail
          refine wpIn_region_puts_round 5 3 (fun L => match L with | [_, b, c, d, e] => !e || (b && c && d) | _ => false) (fun L => match L with | [_, b, c, d, e] => e && b && c && d | _ => false) [(42, .slice Al j cl), (43, .agg #[.bool n1, .string a1, .string d1]), (44, .agg #[.bool false, .string (natS N), .string (natS D)]), (45, .int .i64 (dn : Int)), (46, .int .u8 (z : Int))] (by kernel_rfl) (by kernel_rfl) (by kernel_rfl) (by kernel_rfl) (by kernel_rfl) (by kernel_rfl) (by rfl) ?hd ?tl
          case hd =>
            simp only [List.take_succ_cons, List.take_zero]
            iterate 4 (quiet_step (fail))
            quiet_step (exact cc _ _)
            exact wpQuiet_nil (by rfl)
          case tl =>
            intro fuel L a' Y hl hc hx hY hq
            simp only [List.take_succ_cons, List.take_zero, List.size_toArray, List.length_cons, List.length_nil] at hl hq
            match L, hl with
            | [b0, b1, b2, b3, b4], _ =>
            simp only [Bool.and_eq_true] at hx
            obtain ⟨⟨⟨rfl, rfl⟩, rfl⟩, rfl⟩ := hx
            have hbY : Below X.heap.size X Y := by
              obtain ⟨pp, rfl⟩ := hY
              exact below_regrown X pp.d pp.os
            have yl := Blk.below xl.out hbY
            have yo := own_below xo.out hbY
            have yg : U.grownBy Y (some gl) := gb_trans xg.out (grown_below hbY)
            have ysz : gx + 1 ≤ Y.heap.size := by rw [← xs.out]; exact hbY.size
            have ykk : ∀ k, k < X.heap.size → Y.heap[k]? = X.heap[k]? := fun k hk => hbY.block k hk
            have y2l := Blk.alloc yl (.cells #[.int .u8 (z : Int)] 5)
            have y2o := yo.alloc (.cells #[.int .u8 (z : Int)] 5)
            obtain ⟨va, wa, hrun, hoa, hga, -⟩ := run_append_own (P := Tryz.prog) (Y.alloc (.cells #[.int .u8 (z : Int)] 5)) (U.heap.size + 2 + m) 118 118 5 i0 (.int .u8 0) 1 1 Tryz.underlying118 hi hz0 hz1 hz2 rfl (by decide) (.slice Al j cl) j (ivs .u8 (pre.map f)) y2o ⟨Y.heap.size, 0, none⟩ 1 1 [.int .u8 (z : Int)] rfl (fun i v hv => by
                match i, hv with
                | 0, hv =>
                  cases hv
                  exact (Blk.new Y 5 #[.int .u8 (z : Int)]).cell 0) (fun u hu => by simp at hu; subst hu; rfl) (by unfold maxLen; omega) (by omega) (by simp; omega)
            obtain ⟨A2, c2, rfl⟩ : ∃ A c, va = .slice A (j + 1) c := by
              rcases own_forms hoa with ⟨-, h⟩ | ⟨g, c, rfl⟩
              · omega
              · exact ⟨_, c, rfl⟩
            have wl : Blk wa gl 118 #[.slice Al j cl] := Blk.grown y2l hga (fun e => by have := (y2o.lt _ e.symm).1; omega)
            have ml : Y.cell? ⟨gl, 0, none⟩ = some (.slice Al j cl) := yl.cell 0
            have ml2 : (Y.alloc (.cells #[.int .u8 (z : Int)] 5)).cell? ⟨gl, 0, none⟩ = some (.slice Al j cl) := y2l.cell 0
            have wl0 : wa.cell? ⟨gl, 0, none⟩ = some (.slice Al j cl) := wl.cell 0
            have wf0 := wl.frozen 0
            have y2lt := fun k (hk : (Value.slice Al j cl).ownBlock = some k) => (y2o.lt k hk).1
            have hg2 : Hid (U.grownBy (wa.setCell ⟨gl, 0, none⟩ (.slice A2 (j + 1) c2)) (some gl)) := Lib.hid ⟨(show wa.os = U.os from hga.os.trans yg.os), (show wa.tape = U.tape from hga.tape.trans yg.tape), (show wa.output = U.output from hga.output.trans yg.output),
              (by have h1 := hga.size; have h2 := yg.size; simp [World.setCell] at h1 ⊢; omega), fun k hk hne => (Below.heap_setCell wa ⟨gl, 0, none⟩ _ k (fun e => hne (by rw [e]))).trans ((hga.block k (by have := yg.size; simp; omega) (fun e => by have := y2lt k e.symm; omega)).trans ((Below.heap_alloc Y _ k (by have := yg.size; omega)).trans (yg.block k hk hne)))⟩
            have hkp : Hid (KeepB (fun k => (k = gA ∨ k = gD) ∨ U.heap.size ≤ k ∧ k < U.heap.size + 2 + m) X (wa.setCell ⟨gl, 0, none⟩ (.slice A2 (j + 1) c2))) := Lib.hid ⟨by have h1 := hga.size; have h2 := hbY.size; simp [World.setCell] at h1 ⊢; omega, fun k hk => by
              have hA := uA.out.lt
              have hD := uD.out.lt
              have hX := xs.out
              have hkX : k < X.heap.size := by rcases hk with (h | h) | h <;> omega
              have hkl : k ≠ gl := by rcases hk with (h | h) | h <;> omega
              have hkU : k < U.heap.size + 2 + m := by rcases hk with (h | h) | h <;> omega
              exact (Below.heap_setCell wa ⟨gl, 0, none⟩ _ k hkl).trans ((hga.block k (by simp; omega) (fun e => by have := y2lt k e.symm; omega)).trans ((Below.heap_alloc Y _ k (by omega)).trans (ykk k hkX)))⟩
            replace yl := Lib.hid yl
            replace yo := Lib.hid yo
            replace yg := Lib.hid yg
            replace ysz := Lib.hid ysz
            replace hoa := Lib.hid hoa
            replace wl := Lib.hid wl
            replace hrun := Lib.hid hrun
            clear hbY y2l y2o hY cc mb0 mb1 mb2 my0 my1 my2 md0 ml0 ykk hga y2lt
            cases b0
            · obtain rfl : fuel = 1 := by rw [← hc]; rfl
              have h0 := hq.2 0 (by rw [show Region.ready .any _ _ = [0] by kernel_rfl]; simp)
              unfold qOp at h0
              simp only [List.getElem?_toArray, List.getElem?_cons_zero] at h0
              rw [if_pos (by rfl)] at h0
              obtain ⟨v, -, h2⟩ := h0
              replace h2 := h2.2
              obtain ⟨Ta, da⟩ := a'
              have ht := h2
              simp only [putAll, List.foldl, Act.put] at ht
              injection ht with t1 t2
              subst t2
              have t3 := arr_unset t1
              generalize Ta.getD 42 undef = u at t3
              subst t3
              clear t1 h2 hq
              refine wpAnyIn_ready (rs := [0, 5]) (by kernel_rfl) (by simp) ?_
              refine AllReadyIn.cons rfl (fun K hK => ?_) (AllReadyIn.cons rfl (fun K hK => ?_) AllReadyIn.nil)
              · go_simp
                refine hK _ _ ?_
                clear hK K
                refine wpAnyIn_ready (rs := [5]) (by kernel_rfl) (by simp) ?_
                refine AllReadyIn.cons rfl (fun K hK => ?_) AllReadyIn.nil
                go_simp
                refine hK _ _ ?_
                clear hK K
                refine wpAnyIn_ready (rs := [6]) (by kernel_rfl) (by simp) ?_
                refine AllReadyIn.cons rfl (fun K hK => ?_) AllReadyIn.nil
                rw [if_pos (by rfl)]
                refine wpIn_append_round (Operand.tmp 42) (Operand.tmp 47) 118 rfl rfl rfl hrun.out ?_
                refine hK _ _ ?_
                clear hK K
                refine wpAnyIn_ready (rs := [7]) (by kernel_rfl) (by simp) ?_
                refine AllReadyIn.cons rfl (fun K hK => ?_) AllReadyIn.nil
                go_simp
                refine hK _ _ ?_
                clear hK K
                refine wpAnyIn_done (by kernel_rfl) ?_ _
                have KW := Blk.set_ wl.out 0 (.slice A2 (j + 1) c2)
                have ho2 : (wa.setCell ⟨gl, 0, none⟩ (.slice A2 (j + 1) c2)).ownsRow (U.heap.size + 2 + m) 5 1 (.slice A2 (j + 1) c2) (j + 1) (ivs .u8 ((pre ++ [(N, D)]).map f)) := by
                  rw [hmap.out, ivs_append]
                  exact ownsRow_setCell_below hoa.out (by simp; omega) _
                exact ⟨hkp.out, hg2.out, _, KW, by rw [List.length_append, ← hj.out]; exact ho2⟩
              · go_simp
                refine hK _ _ ?_
                clear hK K
                refine wpAnyIn_ready (rs := [0]) (by kernel_rfl) (by simp) ?_
                refine AllReadyIn.cons rfl (fun K hK => ?_) AllReadyIn.nil
                go_simp
                refine hK _ _ ?_
                clear hK K
                refine wpAnyIn_ready (rs := [6]) (by kernel_rfl) (by simp) ?_
                refine AllReadyIn.cons rfl (fun K hK => ?_) AllReadyIn.nil
                rw [if_pos (by rfl)]
                refine wpIn_append_round (Operand.tmp 42) (Operand.tmp 47) 118 rfl rfl rfl hrun.out ?_
                refine hK _ _ ?_
                clear hK K
                refine wpAnyIn_ready (rs := [7]) (by kernel_rfl) (by simp) ?_
                refine AllReadyIn.cons rfl (fun K hK => ?_) AllReadyIn.nil
                go_simp
                refine hK _ _ ?_
                clear hK K
                refine wpAnyIn_done (by kernel_rfl) ?_ _
                have KW := Blk.set_ wl.out 0 (.slice A2 (j + 1) c2)
                have ho2 : (wa.setCell ⟨gl, 0, none⟩ (.slice A2 (j + 1) c2)).ownsRow (U.heap.size + 2 + m) 5 1 (.slice A2 (j + 1) c2) (j + 1) (ivs .u8 ((pre ++ [(N, D)]).map f)) := by
                  rw [hmap.out, ivs_append]
                  exact ownsRow_setCell_below hoa.out (by simp; omega) _
                exact ⟨hkp.out, hg2.out, _, KW, by rw [List.length_append, ← hj.out]; exact ho2⟩
            · obtain rfl : fuel = 0 := by rw [← hc]; rfl
              obtain rfl := hq.2
              simp only [putAll, List.foldl]
              refine wpAnyIn_ready (rs := [5]) (by kernel_rfl) (by simp) ?_
              refine AllReadyIn.cons rfl (fun K hK => ?_) AllReadyIn.nil
              go_simp
              refine hK _ _ ?_
              clear hK K
              refine wpAnyIn_ready (rs := [6]) (by kernel_rfl) (by simp) ?_
              refine AllReadyIn.cons rfl (fun K hK => ?_) AllReadyIn.nil
              rw [if_pos (by rfl)]
              refine wpIn_append_round (Operand.tmp 42) (Operand.tmp 47) 118 rfl rfl rfl hrun.out ?_
              refine hK _ _ ?_
              clear hK K
              refine wpAnyIn_ready (rs := [7]) (by kernel_rfl) (by simp) ?_
              refine AllReadyIn.cons rfl (fun K hK => ?_) AllReadyIn.nil
              go_simp
              refine hK _ _ ?_
              clear hK K
              refine wpAnyIn_done (by kernel_rfl) ?_ _
              have KW := Blk.set_ wl.out 0 (.slice A2 (j + 1) c2)
              have ho2 : (wa.setCell ⟨gl, 0, none⟩ (.slice A2 (j + 1) c2)).ownsRow (U.heap.size + 2 + m) 5 1 (.slice A2 (j + 1) c2) (j + 1) (ivs .u8 ((pre ++ [(N, D)]).map f)) := by
                rw [hmap.out, ivs_append]
                exact ownsRow_setCell_below hoa.out (by simp; omega) _
              exact ⟨hkp.out, hg2.out, _, KW, by rw [List.length_append, ← hj.out]; exact ho2⟩
  · have hEF : Hid (E = F ∧ E ≠ 0) := Lib.hid (by rw [hE.out, ofE, ← hF.out, if_neg hF0]; exact ⟨rfl, hF0⟩)
    have K2 := Blk.set_ (Blk.set_ kr.out 0 (.slice none 0 0)) 1 (.slice none 0 0)
    have hB2 := (hBW.out.setCell (p := ⟨w.heap.size + 1 + 1 + 1, 0, none⟩) (by simp; omega) (.slice none 0 0)).setCell (p := ⟨w.heap.size + 1 + 1 + 1, 1, none⟩) (by simp; omega) (.slice none 0 0)
    replace K2 := Lib.hid K2
    replace hB2 := Lib.hid hB2
    go_wp2_with fail
    have q0 := K2.out.cell 0
    have q1 := K2.out.cell 1
    refine leaves_none (v := .tuple #[.agg #[.slice none 0 0, .slice none 0 0], .int .i64 F]) (by simp [results, Tryz.results58, go_sem, q0, q1]) (by
      rw [hEF.out.1]
      exact retRowE_nil (by rw [hPP.out, if_neg hEF.out.2]) (by rw [hQQ.out, if_neg hEF.out.2]) hB2.out)
open Go.RowKit Go.Sort
open Go.RowKit Go.Sort
section
variable {w w' : World} {a b : Value} {P Q : List Nat}
end
end Go.Proofs.YtoaggmegmgdgbaaGreat
