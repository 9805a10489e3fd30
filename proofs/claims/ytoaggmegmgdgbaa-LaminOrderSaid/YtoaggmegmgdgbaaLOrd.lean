/- filigreelaw23.LaminOrder: the walk. -/
import Derived.Test.YtoaggmegmgdgbaaRot
import Derived.Test.YtoaggmegmgdgbaaLamR
import Derived.Test.YtoaggmegmgdgbaaLamO
import Derived.Test.YtoaggmegmgdgbaaLeav
import Derived.Test.YtoaggmegmgdgbaaLamL
import Derived.Deep.CutBlock
import Derived.Deep.CutRange
namespace Go.Proofs.Ytoaggmegmgdgbaa
open Go.RowKit Go.Sort
attribute [local go_sem] Oper.semAt_some


theorem row_out {A B : World} {lo hi : Nat} {v : Value} {L : List Lf} (h : LRow A hi v L) (ho : OutB lo hi A B) : LRow B hi v L := by
  obtain ⟨h1, h2⟩ := h
  refine ⟨h1, h2.imp id ?_⟩
  rintro ⟨g, cap, cur, rfl, hb, hg, rest⟩
  have hlt : g < A.heap.size := by
    rcases Nat.lt_or_ge g A.heap.size with h | h
    · exact h
    · rw [Array.getElem?_eq_none h] at hg; cases hg
  exact ⟨g, cap, cur, rfl, hb, (ho.block g hlt (by omega)).trans hg, rest⟩
theorem blk_neO {w : World} {g g' : Nat} {T T' : TypeId} {cs cs' : Array Value} (h : Blk w g T cs) (k : Blk w g' T' cs') (hT : T ≠ T') : g ≠ g' := fun e => by
  subst e
  have h1 := (show w.heap[g]? = _ from h).symm.trans k
  injection h1 with h1
  injection h1 with h1 h2 h3
  exact hT h2
theorem row_neO {w : World} {B g : Nat} {v : Value} {L : List Lf} {T : TypeId} {cs : Array Value} (h : LRow w B v L) (k : Blk w g T cs) (hT : 27 ≠ T) : ∀ q, v.ownBlock = some q → ¬ q = g := fun q hq e => by
  subst e
  rcases h.2 with ⟨rfl, -⟩ | ⟨g', cap, cur, rfl, -, hg, -⟩
  · cases hq
  · have hq : some g' = some q := hq
    injection hq with hq
    subst hq
    have h1 := hg.symm.trans (show w.heap[g']? = _ from k)
    injection h1 with h1
    injection h1 with h1 h2 h3
    exact hT h2
theorem row_deferred {w : World} {B q : Nat} {v : Value} {L : List Lf} {o : Option (List Deferred)} (h : LRow w B v L) (hq : v.ownBlock = some q) (k : w.heap[q]? = some (.deferred o)) : False := by
  rcases h.2 with ⟨rfl, -⟩ | ⟨g', cap, cur, rfl, -, hg, -⟩
  · cases hq
  · have hq : some g' = some q := hq
    injection hq with hq
    subst hq
    rw [hg] at k
    cases k
theorem leafE_inj {l m : Lf} (h : leafE l = leafE m) : l = m := by
  simp only [leafE, List.cons.injEq, Value.string.injEq, and_true, true_and] at h
  obtain ⟨h1, h2, h3, h4⟩ := h
  exact Prod.ext (Prod.ext (natS_injA h1) (natS_injA h2)) (Prod.ext (natS_injA h3) (natS_injA h4))
theorem gb_setO {a b : World} {g : Nat} (h : a.grownBy b (some g)) (j : Nat) (v : Value) : a.grownBy (b.setCell ⟨g, j, none⟩ v) (some g) := ⟨h.os, h.tape, h.output, by have := h.size; simp [World.setCell]; omega, fun k hk hn => (Below.heap_setCell b ⟨g, j, none⟩ v k (fun e => hn (by rw [e]))).trans (h.block k hk hn)⟩
theorem crossLf_lfp {l m : Lf} (hl : Lfp l) (hm : Lfp m) : crossLf false (natS l.1.1) (natS l.1.2) false (natS l.2.1) (natS l.2.2) false (natS m.1.1) (natS m.1.2) false (natS m.2.1) (natS m.2.2) = (crossP l m, 0) := by
  have c1 := chkLf_leaf l hl.1
  rw [if_neg (by have := hl.2; omega), if_neg (by have := hl.2; omega)] at c1
  have c2 := chkLf_leaf m hm.1
  rw [if_neg (by have := hm.2; omega), if_neg (by have := hm.2; omega)] at c2
  rw [crossLf, c1, if_pos rfl, c2, if_pos rfl]
  simp only [be_natS]
  rfl
theorem Ang.sz' {p : Nat × Nat} (h : Ang p) : (natS p.1).size ≤ 9223372036854775807 ∧ (natS p.2).size ≤ 9223372036854775807 := okA_size h.ok
theorem addV_bad {n1 : Bool} {a1 d1 : ByteArray} {n2 : Bool} {a2 d2 : ByteArray} (h : ¬ okA n2 a2 d2 = true) : addV n1 a1 d1 n2 a2 d2 = .tuple #[.agg #[.bool false, .string ⟨#[]⟩, .string ⟨#[]⟩], .int .i64 210] := by
  unfold addV
  rw [if_neg (by rw [Bool.and_eq_true]; exact fun e => h e.2)]
  rfl
theorem addV_rot {z t : Nat × Nat} (hz : Ang z) (ht : Ang t) : addV false (natS z.1) (natS z.2) false (natS t.1) (natS t.2) = if (rotP t z).2 ≤ 2147483647 then .tuple #[.agg #[.bool false, .string (natS (rotP t z).1), .string (natS (rotP t z).2)], .int .i64 0] else .tuple #[.agg #[.bool false, .string ⟨#[]⟩, .string ⟨#[]⟩], .int .i64 210] := by
  unfold addV toldV
  rw [hz.ok, ht.ok]
  simp only [be_natS]
  rfl
theorem But.set3 (A : World) (g i j k : Nat) (v0 v1 v2 : Value) : But (fun q => q = g) A (((A.setCell ⟨g, i, none⟩ v0).setCell ⟨g, j, none⟩ v1).setCell ⟨g, k, none⟩ v2) := by
  have q : But (fun k => k = g) A A := But.refl _ A
  have q0 := q.setCell (p := ⟨g, i, none⟩) (Or.inl (rfl : g = g)) v0
  have q1 := q0.setCell (p := ⟨g, j, none⟩) (Or.inl (rfl : g = g)) v1
  exact q1.setCell (p := ⟨g, k, none⟩) (Or.inl (rfl : g = g)) v2
theorem blk_deferred {w : World} {g : Nat} {T : TypeId} {cs : Array Value} {o : Option (List Deferred)} (h : Blk w g T cs) (k : w.heap[g]? = some (.deferred o)) : False := by
  have h1 := (show w.heap[g]? = _ from h).symm.trans k
  cases h1
theorem lMake_ang {p q : Nat × Nat} (hp : Ang p) (hq : Ang q) (h : p ≠ q) (w : World) : Calls Try.prog 12 #[.agg #[.bool false, .string (natS p.1), .string (natS p.2)], .agg #[.bool false, .string (natS q.1), .string (natS q.2)]] w (RetVal (.tuple #[.agg #[.bool false, .string (natS (mkL p q).1.1), .string (natS (mkL p q).1.2), .bool false, .string (natS (mkL p q).2.1), .string (natS (mkL p q).2.2)], .int .i64 0]) w) := by
  have h1 := lMake_any false (natS p.1) (natS p.2) false (natS q.1) (natS q.2) w hp.sz'.1 hp.sz'.2 hq.sz'.1 hq.sz'.2
  have e : makeLf false (natS p.1) (natS p.2) false (natS q.1) (natS q.2) = (leafV (mkL p q), 0) := by
    rw [makeLf, hp.ok, hq.ok, if_pos rfl, if_pos rfl]
    simp only [be_natS]
    rw [if_neg (fun e => h (Prod.ext (congrArg Prod.fst e) (congrArg Prod.snd e)))]
  rw [e] at h1
  exact h1
theorem lCross_lfp {l m : Lf} (hl : Lfp l) (hm : Lfp m) (w : World) : Calls Try.prog 10 #[.agg #[.bool false, .string (natS l.1.1), .string (natS l.1.2), .bool false, .string (natS l.2.1), .string (natS l.2.2)], .agg #[.bool false, .string (natS m.1.1), .string (natS m.1.2), .bool false, .string (natS m.2.1), .string (natS m.2.2)]] w (RetVal (.tuple #[.bool (crossP l m), .int .i64 0]) w) := by
  have h := lCross_any false (natS l.1.1) (natS l.1.2) false (natS l.2.1) (natS l.2.2) false (natS m.1.1) (natS m.1.2) false (natS m.2.1) (natS m.2.2) w hl.1.1.sz'.1 hl.1.1.sz'.2 hl.1.2.sz'.1 hl.1.2.sz'.2 hm.1.1.sz'.1 hm.1.1.sz'.2 hm.1.2.sz'.1 hm.1.2.sz'.2
  rw [crossLf_lfp hl hm] at h
  exact h
/-- Rows in one block begin alike. -/
theorem rows_head {w : World} {B B' k : Nat} {v v' : Value} {L M : List Lf} (h : LRow w B v L) (h' : LRow w B' v' M) (hk : v.ownBlock = some k) (hk' : v'.ownBlock = some k) (hL : 0 < L.length) (hM : 0 < M.length) : L[0]! = M[0]! := by
  rcases h.2 with ⟨rfl, -⟩ | ⟨g, cap, cur, rfl, -, hg, -, -, -, ht⟩
  · cases hk
  rcases h'.2 with ⟨rfl, -⟩ | ⟨g', cap', cur', rfl, -, hg', -, -, -, ht'⟩
  · cases hk'
  have hk : some g = some k := hk
  have hk' : some g' = some k := hk'
  injection hk with hk
  injection hk' with hk'
  subst hk
  subst hk'
  have e := hg.symm.trans hg'
  injection e with e
  injection e with e
  subst e
  apply leafE_inj
  apply List.ext_getElem?
  intro j
  by_cases hj : j < 6
  · have e1 : cur[j]? = (leafE L[0]!)[j]? := by
      rw [take_at (F := flatL L) (m := L.length * 6) (by rw [ht, List.take_of_length_le (by rw [flatL_len]; exact Nat.le_refl _)]) (by omega)]
      have := flatL_get L 0 j hL hj
      rw [Nat.zero_mul, Nat.zero_add] at this
      rw [this, getElem!_pos L 0 hL]
    have e2 : cur[j]? = (leafE M[0]!)[j]? := by
      rw [take_at (F := flatL M) (m := M.length * 6) (by rw [ht', List.take_of_length_le (by rw [flatL_len]; exact Nat.le_refl _)]) (by omega)]
      have := flatL_get M 0 j hM hj
      rw [Nat.zero_mul, Nat.zero_add] at this
      rw [this, getElem!_pos M 0 hM]
    rw [← e1, ← e2]
  · rw [List.getElem?_eq_none (by rw [leafE_length]; omega), List.getElem?_eq_none (by rw [leafE_length]; omega)]
/-- The leaf ahead is added to those behind it. -/
theorem drop_add {L : List Lf} (h : LOk L) (hn : L.length ≤ 4096) {i : Nat} (hi : i < L.length) : addL (L.drop (i + 1)) L[i]! = (L.drop i, 0) := by
  have hm := getBang_mem hi
  have hup : ∀ q, q ∈ L.drop (i + 1) → ordL L[i]! q < 0 := fun q hq => by
    obtain ⟨j, hj, rfl⟩ := List.mem_iff_getElem.1 hq
    rw [List.length_drop] at hj
    rw [List.getElem_drop, getElem!_pos L i hi]
    exact List.pairwise_iff_getElem.1 h.up i (i + 1 + j) hi (by omega) (by omega)
  have h1 : L[i]! ∉ L.drop (i + 1) := fun hq => by
    have := hup _ hq
    rw [ordL_refl] at this
    omega
  have h2 : ¬ (L.drop (i + 1)).any (crossP L[i]!) = true := fun e => by
    obtain ⟨q, hq, e⟩ := List.any_eq_true.1 e
    rw [h.nc _ q hm (List.mem_of_mem_drop hq)] at e
    cases e
  have h3 : ¬ 4096 ≤ (L.drop (i + 1)).length := by rw [List.length_drop]; omega
  rw [addL_putL h1 h2 h3]
  have e0 : plcL (L.drop (i + 1)) L[i]! = 0 := by
    unfold plcL
    rcases hd : L.drop (i + 1) with _ | ⟨q, r⟩
    · rfl
    · rw [List.takeWhile_cons]
      have hq := hup q (by rw [hd]; exact List.mem_cons_self ..)
      have ha := h.ang _ hm
      have hb := h.ang q (List.mem_of_mem_drop (by rw [hd]; exact List.mem_cons_self ..))
      rw [if_neg]
      · rfl
      · intro e
        have e := of_decide_eq_true e
        have := ordL_trans ha hb ha hq e
        rw [ordL_refl] at this
        omega
  rw [e0]
  unfold putL
  rw [List.take_zero, List.nil_append, List.drop_zero, List.singleton_append, getElem!_pos L i hi, List.getElem_cons_drop]
set_option maxRecDepth 100000 in
set_option maxHeartbeats 16000000 in
/-- filigreelaw23.LaminOrder: it is true. -/
theorem laminOrder_any (v : Value) (Ls : List RawL) (an : Bool) (aa ad : ByteArray) (am : Bool) (ab ac : ByteArray) (bn : Bool) (ba bd : ByteArray) (bm : Bool) (bb bc : ByteArray) (tn : Bool) (ta td : ByteArray) (w : World) (hv : RdK 6 encR w v Ls) (hz : ∀ r, r ∈ Ls → szR r)
    (za1 : aa.size ≤ 9223372036854775807) (za2 : ad.size ≤ 9223372036854775807) (za3 : ab.size ≤ 9223372036854775807) (za4 : ac.size ≤ 9223372036854775807) (zb1 : ba.size ≤ 9223372036854775807) (zb2 : bd.size ≤ 9223372036854775807) (zb3 : bb.size ≤ 9223372036854775807) (zb4 : bc.size ≤ 9223372036854775807) (zt1 : ta.size ≤ 9223372036854775807) (zt2 : td.size ≤ 9223372036854775807) :
    Calls Try.prog 3 #[v, .agg #[.bool an, .string aa, .string ad, .bool am, .string ab, .string ac], .agg #[.bool bn, .string ba, .string bd, .bool bm, .string bb, .string bc], .agg #[.bool tn, .string ta, .string td]] w (RetVal (.bool true) w) := by
  have hBW : Below w.heap.size w ((((w.alloc (.cells #[.bool an, .string aa, .string ad, .bool am, .string ab, .string ac] 27)).alloc (.cells #[.bool bn, .string ba, .string bd, .bool bm, .string bb, .string bc] 27)).alloc (.cells #[.bool tn, .string ta, .string td] 25)).alloc (.cells #[.bool false] 4)) := (((((Below.refl _ w).alloc (Nat.le_refl _) _).alloc (by simp) _).alloc (by simp; omega) _).alloc (by simp; omega) _)
  have kk0 := (Blk.alloc (Blk.alloc (Blk.alloc (Blk.new w 27 #[.bool an, .string aa, .string ad, .bool am, .string ab, .string ac]) (.cells #[.bool bn, .string ba, .string bd, .bool bm, .string bb, .string bc] 27)) (.cells #[.bool tn, .string ta, .string td] 25)) (.cells #[.bool false] 4))
  have kk1 := (Blk.alloc (Blk.alloc (Blk.new (w.alloc (.cells #[.bool an, .string aa, .string ad, .bool am, .string ab, .string ac] 27)) 27 #[.bool bn, .string ba, .string bd, .bool bm, .string bb, .string bc]) (.cells #[.bool tn, .string ta, .string td] 25)) (.cells #[.bool false] 4))
  simp only [World.size_alloc] at kk1
  have kk2 := (Blk.alloc (Blk.new ((w.alloc (.cells #[.bool an, .string aa, .string ad, .bool am, .string ab, .string ac] 27)).alloc (.cells #[.bool bn, .string ba, .string bd, .bool bm, .string bb, .string bc] 27)) 25 #[.bool tn, .string ta, .string td]) (.cells #[.bool false] 4))
  simp only [World.size_alloc] at kk2
  have kk3 := (Blk.new (((w.alloc (.cells #[.bool an, .string aa, .string ad, .bool am, .string ab, .string ac] 27)).alloc (.cells #[.bool bn, .string ba, .string bd, .bool bm, .string bb, .string bc] 27)).alloc (.cells #[.bool tn, .string ta, .string td] 25)) 4 #[.bool false])
  simp only [World.size_alloc] at kk3
  have hA := Lib.hid kk0
  have hBb := Lib.hid kk1
  have hT := Lib.hid kk2
  have hR := Lib.hid kk3
  have hB := Lib.hid hBW
  clear hBW kk0 kk1 kk2 kk3
  have cAw := Lib.hid (fun W => lawake_any W)
  have cMade := Lib.hid (fun W (hb : Below w.heap.size w W) => lmade_any v Ls W (hv.below hb) hz)
  obtain ⟨A, c, rfl, -⟩ := id hv
  obtain ⟨n, hn⟩ : ∃ n, n = Ls.length := ⟨_, rfl⟩
  rw [← hn] at cMade ⊢
  clear hv hz
  have cCr := Lib.hid (fun W => lCross_any an aa ad am ab ac bn ba bd bm bb bc W za1 za2 za3 za4 zb1 zb2 zb3 zb4)
  have cCs := Lib.hid (fun W => lCross_any bn ba bd bm bb bc an aa ad am ab ac W zb1 zb2 zb3 zb4 za1 za2 za3 za4)
  refine callsIn_wide.1 (callsIn_of_wp_marks (n := 0) Try.func3 rfl trivial ?_ rfl)
  simp only [Try.ntmps3, List.size_toArray, List.length_cons, List.length_nil, Nat.reduceAdd, Nat.reduceSub, Array.replicate_succ, Array.replicate_zero, List.push_toArray, List.append_toArray, List.nil_append, List.cons_append]
  refine wpIn_wide.2 ?_
  go_upto_region 1 with fail
  generalize hW : ((((w.alloc (.cells #[.bool an, .string aa, .string ad, .bool am, .string ab, .string ac] 27)).alloc (.cells #[.bool bn, .string ba, .string bd, .bool bm, .string bb, .string bc] 27)).alloc (.cells #[.bool tn, .string ta, .string td] 25)).alloc (.cells #[.bool false] 4)) = w1 at hA hBb hT hR hB ⊢
  clear hW
  replace hA : Hid (Blk w1 (w.heap.size) 27 #[.bool an, .string aa, .string ad, .bool am, .string ab, .string ac]) := hA
  replace hBb : Hid (Blk w1 (w.heap.size + 1) 27 #[.bool bn, .string ba, .string bd, .bool bm, .string bb, .string bc]) := hBb
  replace hT : Hid (Blk w1 (w.heap.size + 1 + 1) 25 #[.bool tn, .string ta, .string td]) := hT
  replace hR : Hid (Blk w1 (w.heap.size + 1 + 1 + 1) 4 #[.bool false]) := hR
  go_wp2_with fail
  refine (cAw.out _).mono ?_
  rintro en w2 ⟨rfl, hb⟩
  replace hB := Lib.hid (hB.out.trans (hb.mono hB.out.size))
  replace hA := Lib.hid (Blk.below hA.out hb)
  replace hBb := Lib.hid (Blk.below hBb.out hb)
  replace hT := Lib.hid (Blk.below hT.out hb)
  replace hR := Lib.hid (Blk.below hR.out hb)
  clear hb
  by_cases h60 : 60 < n
  case pos =>
    have h60z : (60 : Int) < (n : Int) := by omega
    replace hn := Lib.hid hn
    go_wp2_with fail
    refine (cAw.out _).mono ?_
    rintro en w3 ⟨rfl, hb⟩
    replace hB := Lib.hid (hB.out.trans (hb.mono hB.out.size))
    replace hA := Lib.hid (Blk.below hA.out hb)
    replace hBb := Lib.hid (Blk.below hBb.out hb)
    replace hT := Lib.hid (Blk.below hT.out hb)
    replace hR := Lib.hid (Blk.below hR.out hb)
    clear hb
    have r0 : w3.cell? ⟨w.heap.size + 1 + 1 + 1, 0, none⟩ = some (.bool false) := hR.out.cell 0
    have r1 := hR.out.frozen 0
    have kr2 := Lib.hid (hR.out.set_ 0 (.bool true))
    have hB2 := Lib.hid (hB.out.setCell (p := ⟨w.heap.size + 1 + 1 + 1, 0, none⟩) (by simp; omega) (.bool true))
    clear hR hB 
    go_wp2_with fail
    have q0 := kr2.out.cell 0
    refine leaves_none (P := Try.prog) (fn := Try.f3) (v := .bool true) (by simp [results, Try.results3, go_sem, q0]) ⟨rfl, hB2.out⟩
  case neg =>
    have h60z : ¬ (60 : Int) < (n : Int) := by omega
    have cMd := Lib.hid (cMade.out w2 hB.out (by omega))
    have hlen0 := madeR_len Ls
    obtain ⟨L0, hL0⟩ : ∃ L, L = madeR Ls := ⟨_, rfl⟩
    rw [← hL0] at cMd hlen0
    have hlen : L0.length ≤ 60 := by omega
    replace hn := Lib.hid hn
    clear cMade hL0 h60 hlen0
    obtain ⟨n0, hn0⟩ : ∃ k, k = L0.length := ⟨_, rfl⟩
    rw [← hn0] at hlen
    replace hn0 := Lib.hid hn0
    go_wp2_with fail
    refine cMd.out.mono ?_
    rintro en w4 ⟨x, vx, rfl, hS, hb⟩
    replace hB := Lib.hid (hB.out.trans (hb.mono hB.out.size))
    replace hA := Lib.hid (Blk.below hA.out hb)
    replace hBb := Lib.hid (Blk.below hBb.out hb)
    replace hT := Lib.hid (Blk.below hT.out hb)
    replace hR := Lib.hid (Blk.below hR.out hb)
    replace hS := Lib.hid hS
    clear hb cMd
    go_wp2_with fail
    refine (lNew_any _).mono ?_
    rintro en w5 ⟨rfl, rfl⟩
    have hxo : ∀ k, k = x ∨ vx.ownBlock = some k → k < w4.heap.size := fun k hk => (hS.out.lam.old k hk).2
    have hy3 : w.heap.size + 1 + 1 + 1 < w4.heap.size := hR.out.lt
    have hY0 := Blk.new w4 52 #[.bool true, .slice none 0 0]
    have hb : Below w4.heap.size w4 (w4.alloc (.cells #[.bool true, .slice none 0 0] 52)) := (Below.refl _ _).alloc (Nat.le_refl _) _
    replace hB := Lib.hid (hB.out.trans (hb.mono hB.out.size))
    replace hA := Lib.hid (Blk.below hA.out hb)
    replace hBb := Lib.hid (Blk.below hBb.out hb)
    replace hT := Lib.hid (Blk.below hT.out hb)
    replace hR := Lib.hid (Blk.below hR.out hb)
    replace hS := Lib.hid (hS.out.below hb)
    clear hb
    generalize hW : w4.alloc (.cells #[.bool true, .slice none 0 0] 52) = w6 at hB hA hBb hT hR hS hY0 hxo hy3 ⊢
    generalize hgg : w4.heap.size = y at hY0 hxo hy3 ⊢
    clear hW hgg
    replace hxo := Lib.hid hxo
    have hSy : Hid (LamS w6 y y (.slice none 0 0) []) := Lib.hid ⟨⟨hY0, World.ownsRow_nil _ _ _ _, Nat.le_refl _⟩, LOk.nil, Nat.zero_le _⟩
    clear hY0
    go_upto_region 7 with fail
    have hK := Lib.hid (Blk.new w6 22 #[.slice none 0 0])
    have hgq3 : w.heap.size + 1 + 1 + 1 < w6.heap.size := hR.out.lt
    have hygq : y < w6.heap.size := hSy.out.lam.blk.lt
    have hb : Below w6.heap.size w6 (w6.alloc (.cells #[.slice none 0 0] 22)) := (Below.refl _ _).alloc (Nat.le_refl _) _
    replace hB := Lib.hid (hB.out.trans (hb.mono hB.out.size))
    replace hA := Lib.hid (Blk.below hA.out hb)
    replace hBb := Lib.hid (Blk.below hBb.out hb)
    replace hT := Lib.hid (Blk.below hT.out hb)
    replace hR := Lib.hid (Blk.below hR.out hb)
    replace hS := Lib.hid (hS.out.below hb)
    replace hSy := Lib.hid (hSy.out.below hb)
    clear hb
    generalize hW : w6.alloc (.cells #[.slice none 0 0] 22) = w7 at hB hA hBb hT hR hS hSy hK hgq3 hygq ⊢
    generalize hgg : w6.heap.size = gq at hK hgq3 hygq ⊢
    clear hW hgg
    go_wp2_with fail
    refine (lLeavesP_any (.pointer (some ⟨x, 0, none⟩)) rfl rfl _).mono ?_
    rintro en w8 ⟨rfl, rfl⟩
    have hI := Lib.hid (Blk.new w7 29 #[.pointer (some ⟨x, 0, none⟩)])
    have hb : Below w7.heap.size w7 (w7.alloc (.cells #[.pointer (some ⟨x, 0, none⟩)] 29)) := (Below.refl _ _).alloc (Nat.le_refl _) _
    replace hB := Lib.hid (hB.out.trans (hb.mono hB.out.size))
    replace hA := Lib.hid (Blk.below hA.out hb)
    replace hBb := Lib.hid (Blk.below hBb.out hb)
    replace hT := Lib.hid (Blk.below hT.out hb)
    replace hR := Lib.hid (Blk.below hR.out hb)
    replace hK := Lib.hid (Blk.below hK.out hb)
    replace hS := Lib.hid (hS.out.below hb)
    replace hSy := Lib.hid (hSy.out.below hb)
    clear hb
    generalize hW : w7.alloc (.cells #[.pointer (some ⟨x, 0, none⟩)] 29) = U at hB hA hBb hT hR hK hS hSy hI ⊢
    generalize hgg : w7.heap.size = gi at hI ⊢
    clear hW hgg
    go_wp2_with fail
    have hgqU := hK.out.lt
    have hgRU := hR.out.lt
    refine (wpIn_wide (n := 0)).1 ?_
    refine wpIn_iterB (gf := 16) (lb := #[.pointer (some ⟨gi, 0, none⟩)]) rfl (enters_of Try.func16 (by kernel_rfl) rfl) (lLeaves_iter gi w2.heap.size x vx L0 U hI.out hS.out) (Below.refl _ _) (fun k hk => hk.elim) (fun _ => rfl)
      (fun m pre W' => U.grownBy W' (some gq) ∧ ∃ vk, Blk W' gq 22 #[vk] ∧ LRow W' (U.heap.size + 2 + m) vk pre) (fun _ _ _ _ => False) (fun m s A B h ho => ⟨gb_out h.1 ho, by
        obtain ⟨vk, h1, h2⟩ := h.2
        exact ⟨vk, blk_out h1 hgqU ho, row_out h2 ho⟩⟩) (fun _ _ _ _ _ h _ => h) (fun _ => ⟨gb_refl _ _, _, hK.out, World.ownsRow_nil _ _ _ _⟩) ?rd ?dn ?st
    case st => intro m c pre W' _ h; exact h.elim
    case rd =>
      rintro m l pre p W ⟨hg, vk, hk, hr⟩ hsz hpre Kk hKk
      replace hg := Lib.hid hg
      replace hk := Lib.hid hk
      replace hr := Lib.hid hr
      replace hKk := Lib.hid hKk
      have hpl := hpre.length_le
      rw [List.length_append, List.length_singleton, ← hn0.out] at hpl
      clear hpre
      simp only [leafV, leafE]
      gi_wp2_with fail
      refine hKk.out _ _ ((KeepB.refl _ W).alloc (fun k hk => by rcases hk with h | h; exact h.elim; omega) _) ?_
      intro o
      have xp := blk_put (Blk.new W 27 #[.bool false, .string (natS p.1.1), .string (natS p.1.2), .bool false, .string (natS p.2.1), .string (natS p.2.2)]) (show W.heap.size ≠ U.heap.size + 1 by omega) o
      have xk := blk_put (hk.out.alloc (.cells #[.bool false, .string (natS p.1.1), .string (natS p.1.2), .bool false, .string (natS p.2.1), .string (natS p.2.2)] 27)) (show gq ≠ U.heap.size + 1 by omega) o
      have xr := own_put (LRow.alloc hr.out (.cells #[.bool false, .string (natS p.1.1), .string (natS p.1.2), .bool false, .string (natS p.2.1), .string (natS p.2.2)] 27)) (r := U.heap.size + 1) (fun e => by have := (World.ownsRow.lt hr.out _ e).1; omega) o
      have xg : U.grownBy ((W.alloc (.cells #[.bool false, .string (natS p.1.1), .string (natS p.1.2), .bool false, .string (natS p.2.1), .string (natS p.2.2)] 27)).putObj (U.heap.size + 1) o) (some gq) := gb_out (hi := U.heap.size + 2) hg.out (((OutB.refl _ _ W).alloc _).put (by omega) (by omega) o)
      have xz : ((W.alloc (.cells #[.bool false, .string (natS p.1.1), .string (natS p.1.2), .bool false, .string (natS p.2.1), .string (natS p.2.2)] 27)).putObj (U.heap.size + 1) o).heap.size = W.heap.size + 1 := by simp
      obtain ⟨gp, hgp⟩ : ∃ g, g = W.heap.size := ⟨_, rfl⟩
      generalize hxx : (W.alloc (.cells #[.bool false, .string (natS p.1.1), .string (natS p.1.2), .bool false, .string (natS p.2.1), .string (natS p.2.2)] 27)).putObj (U.heap.size + 1) o = X at xp xk xr xg xz ⊢
      rw [← hgp] at xp xz hsz ⊢
      clear hxx hgp hg hKk hk hr
      obtain ⟨Ak, ck, rfl, -⟩ := LRow.form xr
      have hXU : U.heap.size + 2 + m ≤ X.heap.size := by omega
      have b0 : X.cell? ⟨gp, 0, none⟩ = some (.bool false) := xp.cell 0
      have b1 : X.cell? ⟨gp, 1, none⟩ = some (.string (natS p.1.1)) := xp.cell 1
      have b2 : X.cell? ⟨gp, 2, none⟩ = some (.string (natS p.1.2)) := xp.cell 2
      have b3 : X.cell? ⟨gp, 3, none⟩ = some (.bool false) := xp.cell 3
      have b4 : X.cell? ⟨gp, 4, none⟩ = some (.string (natS p.2.1)) := xp.cell 4
      have b5 : X.cell? ⟨gp, 5, none⟩ = some (.string (natS p.2.2)) := xp.cell 5
      have k0 : X.cell? ⟨gq, 0, none⟩ = some (.slice Ak pre.length ck) := xk.cell 0
      replace xk := Lib.hid xk
      replace xr := Lib.hid xr
      replace xg := Lib.hid xg
      clear xp
      obtain ⟨i0, hi, hz0, hz1, hz2⟩ := info_parts info_leafI
      have hp4 : pre.length ≤ 4096 := by omega
      gi_wp2_with (gi_at_builtin; refine wpListIn_append_own _ rfl _ _ 22 rfl (U.heap.size + 2 + m) 27 i0 (.agg #[.bool false, .string ⟨#[]⟩, .string ⟨#[]⟩, .bool false, .string ⟨#[]⟩, .string ⟨#[]⟩]) 6 80 Try.underlying22 hi hz0 hz1 hz2 ?g1 ?g2 (.slice Ak pre.length ck) pre.length (flatL pre) ?g3 ?g4 ⟨X.heap.size, 0, none⟩ 1 1 (leafE p) ?g5 ?g6 ?g7 ?g8 ?g9 ?g10 ?g11 ?gK)
      case g1 => rfl
      case g2 => decide
      case g3 => rfl
      case g4 => exact World.ownsRow.alloc xr.out (.cells #[.bool false, .string (natS p.1.1), .string (natS p.1.2), .bool false, .string (natS p.2.1), .string (natS p.2.2)] 27)
      case g5 => simp [Act.eval, Act.put, xz]
      case g6 => rfl
      case g7 => exact leaf_news (Blk.new X 27 (leafE p).toArray)
      case g8 => exact leaf_one p
      case g9 => unfold maxLen; omega
      case g10 => omega
      case g11 => simp; omega
      case gK =>
        intro v5 w4 hown5 hgrow5 _
        have hlt5 := fun k (hk : (Value.slice Ak pre.length ck).ownBlock = some k) => (World.ownsRow.lt xr.out k hk).1
        have wk := Blk.grown (Blk.alloc xk.out (.cells #[.bool false, .string (natS p.1.1), .string (natS p.1.2), .bool false, .string (natS p.2.1), .string (natS p.2.2)] 27)) hgrow5 (fun e => by have := hlt5 gq e.symm; omega)
        have zk : w4.cell? ⟨gq, 0, none⟩ = some (.slice Ak pre.length ck) := wk.cell 0
        have zf := wk.frozen 0
        have hr5 := LRow.snoc rfl hown5
        obtain ⟨A5, c5, hv5, -⟩ := LRow.form hr5
        have hX4 : X.heap.size ≤ w4.heap.size := by have := hgrow5.size; simp at this; omega
        have hg2 : Hid (U.grownBy (w4.setCell ⟨gq, 0, none⟩ v5) (some gq)) := Lib.hid ⟨(show w4.os = U.os from hgrow5.os.trans xg.out.os), (show w4.tape = U.tape from hgrow5.tape.trans xg.out.tape), (show w4.output = U.output from hgrow5.output.trans xg.out.output),
          (by have h1 := xg.out.size; simp [World.setCell]; omega), fun k hk hne => (Below.heap_setCell w4 ⟨gq, 0, none⟩ _ k (fun e => hne (by rw [e]))).trans ((hgrow5.block k (by simp; omega) (fun e => by have := hlt5 k e.symm; omega)).trans ((Below.heap_alloc X _ k (by omega)).trans (xg.out.block k hk hne)))⟩
        have hkp : Hid (KeepB (fun k => False ∨ U.heap.size ≤ k ∧ k < U.heap.size + 2 + m) X (w4.setCell ⟨gq, 0, none⟩ v5)) := Lib.hid ⟨by simp [World.setCell]; omega, fun k hk => by
          have hkU : U.heap.size ≤ k ∧ k < U.heap.size + 2 + m := by rcases hk with h | h; exact h.elim; exact h
          exact (Below.heap_setCell w4 ⟨gq, 0, none⟩ _ k (show k ≠ gq by omega)).trans ((hgrow5.block k (by simp; omega) (fun e => by have := hlt5 k e.symm; omega)).trans (Below.heap_alloc X _ k (by omega)))⟩
        have hk2 := Lib.hid (Blk.set_ wk 0 v5)
        have hr2 := Lib.hid (show LRow (w4.setCell ⟨gq, 0, none⟩ v5) (U.heap.size + 2 + m) v5 (pre ++ [p]) from ownsRow_setCell_below hr5 (a := ⟨gq, 0, none⟩) (show gq < _ by omega) _)
        replace hv5 : v5 = .slice A5 (pre.length + 1) c5 := by rw [hv5, List.length_append]; rfl
        subst hv5
        clear wk hown5 hgrow5 hr5 hX4 hlt5 xr xg xk b0 b1 b2 b3 b4 b5 k0
        gi_wp2_with fail
        exact ⟨hkp.out, hg2.out, _, hk2.out, hr2.out⟩
    case dn =>
      rintro m W ⟨hg, vk, hk, hr⟩ hMk
      have hbg : But (fun k => k = gq) U W := ⟨hg.os, hg.tape, hg.output, hg.size, fun k hk hn => hg.block k hk (fun e => hn (by injection e))⟩
      have hxk : x ≠ gq := blk_neO hS.out.lam.blk hK.out (by decide)
      have hvk := row_neO hS.out.lam.row hK.out (by decide)
      have hyk : y ≠ gq := by omega
      replace hS := Lib.hid (LamS.but hS.out hbg hxk hvk)
      replace hSy := Lib.hid (LamS.but hSy.out hbg hyk (fun k hk => by cases hk))
      replace hA := Lib.hid (Blk.but hA.out hbg (by omega))
      replace hBb := Lib.hid (Blk.but hBb.out hbg (by omega))
      replace hT := Lib.hid (Blk.but hT.out hbg (by omega))
      replace hR := Lib.hid (Blk.but hR.out hbg (by omega))
      replace hB := Lib.hid (hB.out.trans (hbg.toBelow hB.out.size (fun k hk e => by subst e; omega)))
      replace hK := Lib.hid hk
      have hltD1 : Hid (w.heap.size + 1 + 1 + 1 < U.heap.size) := Lib.hid hgRU
      have hyD : y < U.heap.size := by omega
      have hgqD : gq < U.heap.size := hgqU
      have hrb : y < U.heap.size + 2 + m := by omega
      clear hg hk hbg hI hgRU hgqU hxk hvk hyk
      generalize hDg : U.heap.size = D1 at hMk hltD1 hyD hgqD hr hrb ⊢
      clear hDg U
      dsimp only
      generalize D1 + 2 + m = rb at hr hrb ⊢
      replace hMk := Lib.hid hMk
      obtain ⟨Ak, ck, rfl, hAk⟩ := LRow.form hr
      rw [← hn0.out] at hK hr hAk
      replace hr := Lib.hid hr
      have hLok := Lib.hid hS.out.ok
      have hL4 := Lib.hid hS.out.len
      have hy0 : Hid (LamS W y y (.slice none 0 0) (L0.drop n0)) := Lib.hid (by rw [List.drop_eq_nil_of_le (by rw [hn0.out]; exact Nat.le_refl _)]; exact hSy.out)
      have k0 : W.cell? ⟨gq, 0, none⟩ = some (.slice Ak n0 ck) := hK.out.cell 0
      have hw0 : IntKind.i64.wrap ((n0 : Int) - 1) = (n0 : Int) - 1 := by rw [IntKind.wrap_i64]; omega
      clear hSy
      go_wp2_with fail
      clear k0 hw0
      go_loopg [13] (n0 + 1) (fun kx s13 wr => ∃ (i : Nat) (u : Value), s13 = .int .i64 ((i : Int) - 1) ∧ i ≤ n0 ∧ i ≤ kx ∧ (i = n0 → u = .slice none 0 0) ∧ Hid (LamS wr y y u (L0.drop i)) ∧ Hid (Below w.heap.size w wr) ∧ Hid (Blk wr w.heap.size 27 #[.bool an, .string aa, .string ad, .bool am, .string ab, .string ac]) ∧ Hid (Blk wr (w.heap.size + 1) 27 #[.bool bn, .string ba, .string bd, .bool bm, .string bb, .string bc]) ∧ Hid (Blk wr (w.heap.size + 1 + 1) 25 #[.bool tn, .string ta, .string td]) ∧ Hid (Blk wr (w.heap.size + 1 + 1 + 1) 4 #[.bool false]) ∧ Hid (LamS wr w2.heap.size x vx L0) ∧ Hid (Blk wr gq 22 #[.slice Ak n0 ck]) ∧ Hid (LRow wr rb (.slice Ak n0 ck) L0) ∧ Hid (wr.heap[D1]? = some (.deferred (some []))))
      case atStart => exact ⟨n0, _, rfl, Nat.le_refl _, Nat.le_succ _, fun _ => rfl, hy0, hB, hA, hBb, hT, hR, hS, hK, hr, hMk⟩
      case round =>
        clear hy0 hB hA hBb hT hR hS hK hr hMk
        obtain ⟨i, u, rfl, hin, hg, hu0, hSy, hB, hA, hBb, hT, hR, hS, hK, hr, hMk⟩ := hrel
        rcases i with _ | i
        case succ =>
          rw [show (((i + 1 : Nat) : Int) - 1) = (i : Int) by omega]
          obtain ⟨g, rfl⟩ := hAk (by omega)
          have hil : i < L0.length := by rw [← hn0.out]; omega
          obtain ⟨p, hp⟩ : ∃ p, p = L0[i]! := ⟨_, rfl⟩
          have hC := LRow.cell (by have h := hr.out; rw [hn0.out] at h; exact h) hil
          rw [← hp] at hC
          have m0 : wr.cell? ⟨g, i * 6, none⟩ = some (.bool false) := hC 0 _ rfl
          have m1 : wr.cell? ⟨g, i * 6 + 1, none⟩ = some (.string (natS p.1.1)) := hC 1 _ rfl
          have m2 : wr.cell? ⟨g, i * 6 + 2, none⟩ = some (.string (natS p.1.2)) := hC 2 _ rfl
          have m3 : wr.cell? ⟨g, i * 6 + 3, none⟩ = some (.bool false) := hC 3 _ rfl
          have m4 : wr.cell? ⟨g, i * 6 + 4, none⟩ = some (.string (natS p.2.1)) := hC 4 _ rfl
          have m5 : wr.cell? ⟨g, i * 6 + 5, none⟩ = some (.string (natS p.2.2)) := hC 5 _ rfl
          have hda := drop_add hLok.out hL4.out hil
          rw [← hp] at hda
          have hpl : Lfp p := hLok.out.lf p (by rw [hp]; exact getBang_mem hil)
          have cA := Lib.hid (lAdd_leaf y y u (L0.drop (i + 1)) p wr hSy.out hpl)
          rw [hda] at cA
          have hsep : Hid (∀ k, (Value.slice (some ⟨g, 0, none⟩) n0 ck).ownBlock = some k → ¬ (k = y ∨ u.ownBlock = some k)) := Lib.hid (fun k hk hkk => by
            rcases hkk with h | h
            · have := (World.ownsRow.lt hr.out k hk).1; omega
            · by_cases he : i + 1 = n0
              · rw [hu0 he] at h; cases h
              · have hd : 0 < (L0.drop (i + 1)).length := by rw [List.length_drop, ← hn0.out]; omega
                have h1 := rows_head (by have h := hr.out; rw [hn0.out] at h; exact h) hSy.out.lam.row (by rw [← hn0.out] ; exact hk) h (by omega) hd
                have h2 := List.pairwise_iff_getElem.1 hLok.out.up 0 (i + 1) (by omega) (by rw [← hn0.out]; omega) (by omega)
                rw [getElem!_pos L0 0 (by omega), getElem!_pos (L0.drop (i + 1)) 0 hd, List.getElem_drop] at h1
                simp only [Nat.add_zero] at h1
                rw [← h1, ordL_refl] at h2
                omega)
          have k0 : wr.cell? ⟨gq, 0, none⟩ = some (.slice (some ⟨g, 0, none⟩) n0 ck) := hK.out.cell 0
          have hiz : (0 : Int) ≤ (i : Int) := by omega
          have hiz2 : (i : Int) < (n0 : Int) := by omega
          have hw0 : IntKind.i64.wrap ((i : Int) - 1) = (i : Int) - 1 := by rw [IntKind.wrap_i64]; omega
          have hgu := Lib.hid (row_neO hSy.out.lam.row hK.out (by decide))
          have hold := Lib.hid hSy.out.lam.old
          replace hp := Lib.hid hp
          clear hC hda hpl hil
          go_wp2_with fail
          refine cA.out.mono ?_
          rintro en w9 ⟨rfl, u2, hS2, hbut⟩
          have hby : Below y wr w9 := hbut.toBelow' (Nat.le_of_lt hSy.out.lam.blk.lt) (fun k hk => (hold.out k hk).1)
          have hbw : Below w.heap.size wr w9 := hby.mono (by omega)
          replace hA := Lib.hid (Blk.but hA.out hbut (fun hk => by have := (hold.out _ hk).1; omega))
          replace hBb := Lib.hid (Blk.but hBb.out hbut (fun hk => by have := (hold.out _ hk).1; omega))
          replace hT := Lib.hid (Blk.but hT.out hbut (fun hk => by have := (hold.out _ hk).1; omega))
          replace hR := Lib.hid (Blk.but hR.out hbut (fun hk => by have := (hold.out _ hk).1; omega))
          replace hS := Lib.hid (LamS.but hS.out hbut (fun hk => by have := (hold.out _ hk).1; have := hxo.out x (.inl rfl); omega) (fun k hk hkk => by have := (hold.out _ hkk).1; have := hxo.out k (.inr hk); omega))
          replace hK := Lib.hid (Blk.but hK.out hbut (fun hk => by
            rcases hk with h | h
            · omega
            · exact hgu.out _ h rfl))
          replace hr := Lib.hid (LRow.but hr.out hbut hsep.out)
          replace hMk := Lib.hid ((hbut.block D1 (Array.getElem?_eq_some_iff.1 hMk.out).1 (fun hk => by
            rcases hk with h | h
            · omega
            · exact row_deferred hSy.out.lam.row h hMk.out)).trans hMk.out)
          replace hB := Lib.hid (hB.out.trans hbw)
          replace hS2 := Lib.hid hS2
          clear hbut hby hbw cA hsep hgu hold hSy m0 m1 m2 m3 m4 m5 k0
          go_wp2_with fail
          go_roundg i
          case measure => omega
          case rel => exact ⟨i, u2, by simp, by omega, Nat.le_refl _, fun h => by omega, hS2, hB, hA, hBb, hT, hR, hS, hK, hr, hMk⟩
        case zero =>
          replace hSy : Hid (LamS wr y y u L0) := hSy
          have hiz : ¬ (0 : Int) ≤ ((0 : Nat) : Int) - 1 := by omega
          clear hu0 hin hg
          go_wp2_with fail
          have cLy := Lib.hid (fun W h => lLenS y y u L0 W h)
          have cLx := Lib.hid (fun W h => lLenS w2.heap.size x vx L0 W h)
          rw [← hn0.out] at cLy cLx
          refine (cLy.out _ hSy.out).mono ?_
          rintro en w10 ⟨rfl, hb⟩
          replace hB := Lib.hid (hB.out.trans (hb.mono hB.out.size))
          replace hA := Lib.hid (Blk.below hA.out hb)
          replace hBb := Lib.hid (Blk.below hBb.out hb)
          replace hT := Lib.hid (Blk.below hT.out hb)
          replace hR := Lib.hid (Blk.below hR.out hb)
          replace hK := Lib.hid (Blk.below hK.out hb)
          replace hS := Lib.hid (hS.out.below hb)
          replace hSy := Lib.hid (hSy.out.below hb)
          replace hMk := Lib.hid ((hb.block D1 (Array.getElem?_eq_some_iff.1 hMk.out).1).trans hMk.out)
          replace hr := Lib.hid (LRow.below hr.out hb)
          clear hb cLy
          go_wp2_with fail
          refine (cLx.out _ hS.out).mono ?_
          rintro en w11 ⟨rfl, hb⟩
          replace hB := Lib.hid (hB.out.trans (hb.mono hB.out.size))
          replace hA := Lib.hid (Blk.below hA.out hb)
          replace hBb := Lib.hid (Blk.below hBb.out hb)
          replace hT := Lib.hid (Blk.below hT.out hb)
          replace hR := Lib.hid (Blk.below hR.out hb)
          replace hK := Lib.hid (Blk.below hK.out hb)
          replace hS := Lib.hid (hS.out.below hb)
          replace hSy := Lib.hid (hSy.out.below hb)
          replace hMk := Lib.hid ((hb.block D1 (Array.getElem?_eq_some_iff.1 hMk.out).1).trans hMk.out)
          replace hr := Lib.hid (LRow.below hr.out hb)
          clear hb cLx hS hxo
          go_upto_region 18 with fail
          have hC := Lib.hid (Blk.new w11 3 #[.int .i64 0])
          have hqc : gq < w11.heap.size := hK.out.lt
          have hDc : D1 < w11.heap.size := (Array.getElem?_eq_some_iff.1 hMk.out).1
          have hyc := hSy.out.lam.old
          have hb : Below w11.heap.size w11 (w11.alloc (.cells #[.int .i64 0] 3)) := (Below.refl _ _).alloc (Nat.le_refl _) _
          replace hB := Lib.hid (hB.out.trans (hb.mono hB.out.size))
          replace hA := Lib.hid (Blk.below hA.out hb)
          replace hBb := Lib.hid (Blk.below hBb.out hb)
          replace hT := Lib.hid (Blk.below hT.out hb)
          replace hR := Lib.hid (Blk.below hR.out hb)
          replace hK := Lib.hid (Blk.below hK.out hb)
          replace hSy := Lib.hid (hSy.out.below hb)
          replace hMk := Lib.hid ((hb.block D1 (Array.getElem?_eq_some_iff.1 hMk.out).1).trans hMk.out)
          replace hr := Lib.hid (LRow.below hr.out hb)
          clear hb
          generalize hW : w11.alloc (.cells #[.int .i64 0] 3) = w12 at hB hA hBb hT hR hK hSy hMk hC hr hqc hDc hyc ⊢
          generalize hgg : w11.heap.size = gc at hC hr hqc hDc hyc ⊢
          clear hW hgg
          replace hyc := Lib.hid (fun k hk => (hyc k hk).2)
          go_wp2_with fail
          refine (lLeavesP_any (.pointer (some ⟨y, 0, none⟩)) rfl rfl _).mono ?_
          rintro en w13 ⟨rfl, rfl⟩
          have hI := Lib.hid (Blk.new w12 29 #[.pointer (some ⟨y, 0, none⟩)])
          have hb : Below w12.heap.size w12 (w12.alloc (.cells #[.pointer (some ⟨y, 0, none⟩)] 29)) := (Below.refl _ _).alloc (Nat.le_refl _) _
          replace hB := Lib.hid (hB.out.trans (hb.mono hB.out.size))
          replace hA := Lib.hid (Blk.below hA.out hb)
          replace hBb := Lib.hid (Blk.below hBb.out hb)
          replace hT := Lib.hid (Blk.below hT.out hb)
          replace hR := Lib.hid (Blk.below hR.out hb)
          replace hK := Lib.hid (Blk.below hK.out hb)
          replace hC := Lib.hid (Blk.below hC.out hb)
          replace hSy := Lib.hid (hSy.out.below hb)
          replace hMk := Lib.hid ((hb.block D1 (Array.getElem?_eq_some_iff.1 hMk.out).1).trans hMk.out)
          replace hr := Lib.hid (LRow.below hr.out hb)
          clear hb
          generalize hW : w12.alloc (.cells #[.pointer (some ⟨y, 0, none⟩)] 29) = U at hB hA hBb hT hR hK hC hSy hMk hI hr ⊢
          generalize hgg : w12.heap.size = gj at hI hr ⊢
          clear hW hgg
          go_wp2_with fail
          have hgcU := hC.out.lt
          have hMU := (Array.getElem?_eq_some_iff.1 hMk.out).1
          refine (wpIn_wide (n := 0)).1 ?_
          refine wpIn_iterB (gf := 16) (lb := #[.pointer (some ⟨gj, 0, none⟩)]) rfl (enters_of Try.func16 (by kernel_rfl) rfl) (lLeaves_iter gj y y u L0 U hI.out hSy.out) (Below.refl _ _) (fun k hk => hk.elim) (fun _ => rfl)
            (fun m pre W' => U.grownBy W' (some gc) ∧ Blk W' gc 3 #[.int .i64 (pre.length : Int)]) (fun _ _ _ _ => False) (fun m s A B h ho => ⟨gb_out h.1 ho, blk_out h.2 hgcU ho⟩) (fun _ _ _ _ _ h _ => h) (fun _ => ⟨gb_refl _ _, hC.out⟩) ?rd ?dn ?st
          case st => intro m c pre W' _ h; exact h.elim
          case rd =>
            rintro m l pre p W ⟨hg, hc⟩ hsz hpre Kk hKk
            have hpl := hpre.length_le
            have hpe : L0[pre.length]? = some p := by
              obtain ⟨suf, he⟩ := hpre
              rw [← he, List.append_assoc, List.getElem?_append_right (Nat.le_refl _), Nat.sub_self]
              rfl
            rw [List.length_append, List.length_singleton] at hpl
            have hp0 : p = L0[pre.length]! := by
              rw [List.getElem?_eq_getElem (by omega)] at hpe
              rw [getElem!_pos L0 pre.length (by omega)]
              injection hpe with hpe
              exact hpe.symm
            obtain ⟨j, hj⟩ : ∃ j, j = pre.length := ⟨_, rfl⟩
            rw [← hj] at hc hpl hp0
            have hjn : j < n0 := by rw [hn0.out]; omega
            obtain ⟨g, rfl⟩ := hAk (by omega)
            have hbg : But (fun k => k = gc) U W := ⟨hg.os, hg.tape, hg.output, hg.size, fun k hk hn => hg.block k hk (fun e => hn (by injection e))⟩
            have hrW : LRow W rb (.slice (some ⟨g, 0, none⟩) n0 ck) L0 := LRow.but hr.out hbg (row_neO hr.out hC.out (by decide))
            have hKW := Blk.but hK.out hbg (by omega)
            replace hg := Lib.hid hg
            replace hc := Lib.hid hc
            replace hrW := Lib.hid hrW
            replace hKW := Lib.hid hKW
            replace hKk := Lib.hid hKk
            replace hj := Lib.hid hj
            replace hp0 := Lib.hid hp0
            clear hpre hpe hbg
            simp only [leafV, leafE]
            gi_wp2_with fail
            refine hKk.out _ _ ((KeepB.refl _ W).alloc (fun k hk => by rcases hk with h | h; exact h.elim; omega) _) ?_
            intro o
            have xp := blk_put (Blk.new W 27 #[.bool false, .string (natS p.1.1), .string (natS p.1.2), .bool false, .string (natS p.2.1), .string (natS p.2.2)]) (show W.heap.size ≠ U.heap.size + 1 by omega) o
            have xk := blk_put (Blk.alloc hKW.out (.cells #[.bool false, .string (natS p.1.1), .string (natS p.1.2), .bool false, .string (natS p.2.1), .string (natS p.2.2)] 27)) (show gq ≠ U.heap.size + 1 by omega) o
            have xc := blk_put (Blk.alloc hc.out (.cells #[.bool false, .string (natS p.1.1), .string (natS p.1.2), .bool false, .string (natS p.2.1), .string (natS p.2.2)] 27)) (show gc ≠ U.heap.size + 1 by omega) o
            have xr := own_put (LRow.alloc hrW.out (.cells #[.bool false, .string (natS p.1.1), .string (natS p.1.2), .bool false, .string (natS p.2.1), .string (natS p.2.2)] 27)) (r := U.heap.size + 1) (fun e => by have := (World.ownsRow.lt hr.out _ e).2; omega) o
            have xg : U.grownBy ((W.alloc (.cells #[.bool false, .string (natS p.1.1), .string (natS p.1.2), .bool false, .string (natS p.2.1), .string (natS p.2.2)] 27)).putObj (U.heap.size + 1) o) (some gc) := gb_out (hi := U.heap.size + 2) hg.out (((OutB.refl _ _ W).alloc _).put (by omega) (by omega) o)
            have xz : ((W.alloc (.cells #[.bool false, .string (natS p.1.1), .string (natS p.1.2), .bool false, .string (natS p.2.1), .string (natS p.2.2)] 27)).putObj (U.heap.size + 1) o).heap.size = W.heap.size + 1 := by simp
            obtain ⟨gp, hgp⟩ : ∃ g, g = W.heap.size := ⟨_, rfl⟩
            generalize hxx : (W.alloc (.cells #[.bool false, .string (natS p.1.1), .string (natS p.1.2), .bool false, .string (natS p.2.1), .string (natS p.2.2)] 27)).putObj (U.heap.size + 1) o = X at xp xk xc xr xg xz ⊢
            rw [← hgp] at xp xz hsz ⊢
            clear hxx hgp hg hKk hc hrW hKW
            have hXU : U.heap.size + 2 + m ≤ X.heap.size := by omega
            have hCl := LRow.cell (i := j) (by have h := xr; rw [hn0.out] at h; exact h) (by rw [← hn0.out]; exact hjn)
            rw [← hp0.out] at hCl
            have b0 : ∀ d os, (grow (redrawn X d) os).cell? ⟨gp, 0, none⟩ = some (.bool false) := cell_regrown (xp.cell 0)
            have b1 : ∀ d os, (grow (redrawn X d) os).cell? ⟨gp, 1, none⟩ = some (.string (natS p.1.1)) := cell_regrown (xp.cell 1)
            have b2 : ∀ d os, (grow (redrawn X d) os).cell? ⟨gp, 2, none⟩ = some (.string (natS p.1.2)) := cell_regrown (xp.cell 2)
            have b3 : ∀ d os, (grow (redrawn X d) os).cell? ⟨gp, 3, none⟩ = some (.bool false) := cell_regrown (xp.cell 3)
            have b4 : ∀ d os, (grow (redrawn X d) os).cell? ⟨gp, 4, none⟩ = some (.string (natS p.2.1)) := cell_regrown (xp.cell 4)
            have b5 : ∀ d os, (grow (redrawn X d) os).cell? ⟨gp, 5, none⟩ = some (.string (natS p.2.2)) := cell_regrown (xp.cell 5)
            have c0 : ∀ d os, (grow (redrawn X d) os).cell? ⟨g, j * 6, none⟩ = some (.bool false) := cell_regrown (hCl 0 _ rfl)
            have c1 : ∀ d os, (grow (redrawn X d) os).cell? ⟨g, j * 6 + 1, none⟩ = some (.string (natS p.1.1)) := cell_regrown (hCl 1 _ rfl)
            have c2 : ∀ d os, (grow (redrawn X d) os).cell? ⟨g, j * 6 + 2, none⟩ = some (.string (natS p.1.2)) := cell_regrown (hCl 2 _ rfl)
            have c3 : ∀ d os, (grow (redrawn X d) os).cell? ⟨g, j * 6 + 3, none⟩ = some (.bool false) := cell_regrown (hCl 3 _ rfl)
            have c4 : ∀ d os, (grow (redrawn X d) os).cell? ⟨g, j * 6 + 4, none⟩ = some (.string (natS p.2.1)) := cell_regrown (hCl 4 _ rfl)
            have c5 : ∀ d os, (grow (redrawn X d) os).cell? ⟨g, j * 6 + 5, none⟩ = some (.string (natS p.2.2)) := cell_regrown (hCl 5 _ rfl)
            have k0 : ∀ d os, (grow (redrawn X d) os).cell? ⟨gq, 0, none⟩ = some (.slice (some ⟨g, 0, none⟩) n0 ck) := cell_regrown (xk.cell 0)
            have i0 : ∀ d os, (grow (redrawn X d) os).cell? ⟨gc, 0, none⟩ = some (.int .i64 (j : Int)) := cell_regrown (xc.cell 0)
            have hjz : (j : Int) < (n0 : Int) := by omega
            have hjz2 : ¬ (n0 : Int) ≤ (j : Int) := by omega
            have hj0 : (0 : Int) ≤ (j : Int) := by omega
            have hw1 : IntKind.i64.wrap ((j : Int) + 1) = (j : Int) + 1 := by rw [IntKind.wrap_i64]; omega
            replace xc := Lib.hid xc
            replace xg := Lib.hid xg
            clear xp xk xr hCl
            gi_wp2_with fail
            refine wpIn_region_quiet_round (by kernel_rfl) (by kernel_rfl) (by kernel_rfl) ?_
            iterate 12 (quiet_step (fail))
            refine wpQuiet_nil ?_
            intro Y hw'
            have hb : Below X.heap.size X Y := by
              obtain ⟨q, rfl⟩ := hw'
              exact below_regrown X q.d q.os
            clear hw' k0 i0 b0 b1 b2 b3 b4 b5 c0 c1 c2 c3 c4 c5
            have yc := Blk.below xc.out hb
            have i0 : Y.cell? ⟨gc, 0, none⟩ = some (.int .i64 (j : Int)) := yc.cell 0
            have i1 := yc.frozen 0
            have yg := gb_trans xg.out (gOfBelow hb)
            have zc := yc.set_ 0 (.int .i64 ((j : Int) + 1))
            have zg := Lib.hid (gb_setO yg 0 (.int .i64 ((j : Int) + 1)))
            have hkp : Hid (KeepB (fun k => False ∨ U.heap.size ≤ k ∧ k < U.heap.size + 2 + m) X (Y.setCell ⟨gc, 0, none⟩ (.int .i64 ((j : Int) + 1)))) := Lib.hid (((KeepB.refl _ X).below (n := X.heap.size) hb (fun k hk => by rcases hk with h | h; exact h.elim; omega)).setCell (p := ⟨gc, 0, none⟩) (fun hk => by rcases hk with h | h; exact h.elim; exact absurd h.1 (by simp only; omega)) _)
            have zc2 : Hid (Blk (Y.setCell ⟨gc, 0, none⟩ (.int .i64 ((j : Int) + 1))) gc 3 #[.int .i64 (((pre ++ [p]).length : Nat) : Int)]) := Lib.hid (by
              rw [List.length_append, ← hj.out]
              push_cast
              exact zc)
            clear yc yg zc hb xc xg
            gi_wp2_with fail
            exact ⟨hkp.out, zg.out, zc2.out⟩
          case dn =>
            rintro m W ⟨hg, -⟩ hMk2
            have hbg : But (fun k => k = gc) U W := ⟨hg.os, hg.tape, hg.output, hg.size, fun k hk hn => hg.block k hk (fun e => hn (by injection e))⟩
            replace hA := Lib.hid (Blk.but hA.out hbg (by omega))
            replace hBb := Lib.hid (Blk.but hBb.out hbg (by omega))
            replace hT := Lib.hid (Blk.but hT.out hbg (by omega))
            replace hR := Lib.hid (Blk.but hR.out hbg (by omega))
            replace hB := Lib.hid (hB.out.trans (hbg.toBelow hB.out.size (fun k hk e => by subst e; omega)))
            replace hMk := Lib.hid ((hbg.block D1 hMU (by omega)).trans hMk.out)
            have hltD2 : Hid (w.heap.size + 1 + 1 + 1 < U.heap.size) := Lib.hid (by omega)
            have hDD0 : D1 ≠ U.heap.size := by omega
            clear hg hbg hI hK hC hSy hr hgcU hMU
            generalize hDg : U.heap.size = D2 at hMk2 hltD2 hDD0 ⊢
            clear hDg U
            dsimp only
            have hDD := Lib.hid hDD0
            replace hMk2 := Lib.hid hMk2
            clear hDD0
            have a0 : W.cell? ⟨w.heap.size, 0, none⟩ = some (.bool an) := hA.out.cell 0
            have a1 : W.cell? ⟨w.heap.size, 1, none⟩ = some (.string aa) := hA.out.cell 1
            have a2 : W.cell? ⟨w.heap.size, 2, none⟩ = some (.string ad) := hA.out.cell 2
            have a3 : W.cell? ⟨w.heap.size, 3, none⟩ = some (.bool am) := hA.out.cell 3
            have a4 : W.cell? ⟨w.heap.size, 4, none⟩ = some (.string ab) := hA.out.cell 4
            have a5 : W.cell? ⟨w.heap.size, 5, none⟩ = some (.string ac) := hA.out.cell 5
            have b0 : W.cell? ⟨w.heap.size + 1, 0, none⟩ = some (.bool bn) := hBb.out.cell 0
            have b1 : W.cell? ⟨w.heap.size + 1, 1, none⟩ = some (.string ba) := hBb.out.cell 1
            have b2 : W.cell? ⟨w.heap.size + 1, 2, none⟩ = some (.string bd) := hBb.out.cell 2
            have b3 : W.cell? ⟨w.heap.size + 1, 3, none⟩ = some (.bool bm) := hBb.out.cell 3
            have b4 : W.cell? ⟨w.heap.size + 1, 4, none⟩ = some (.string bb) := hBb.out.cell 4
            have b5 : W.cell? ⟨w.heap.size + 1, 5, none⟩ = some (.string bc) := hBb.out.cell 5
            by_cases hz : chkLf an aa ad am ab ac = 0 ∧ chkLf bn ba bd bm bb bc = 0
            case neg =>
              obtain ⟨⟨C1, E1⟩, hC1⟩ : ∃ r, r = crossLf an aa ad am ab ac bn ba bd bm bb bc := ⟨_, rfl⟩
              obtain ⟨⟨C2, E2⟩, hC2⟩ : ∃ r, r = crossLf bn ba bd bm bb bc an aa ad am ab ac := ⟨_, rfl⟩
              have hE1 : E1 ≠ 0 := by
                have : E1 = (crossLf an aa ad am ab ac bn ba bd bm bb bc).2 := by rw [← hC1]
                rw [this, crossLf]
                by_cases h1 : chkLf an aa ad am ab ac = 0
                · rw [if_pos h1, if_neg (fun h2 => hz ⟨h1, h2⟩)]; exact fun h2 => hz ⟨h1, h2⟩
                · rw [if_neg h1]; exact h1
              rw [← hC1] at cCr
              rw [← hC2] at cCs
              have hE1z : (E1 != 0) = true := by simpa using hE1
              clear hz hC1 hC2 hE1
              go_wp2_with fail
              refine (cCr.out _).mono ?_
              rintro en w20 ⟨rfl, hb⟩
              replace hB := Lib.hid (hB.out.trans (hb.mono hB.out.size))
              replace hA := Lib.hid (Blk.below hA.out hb)
              replace hBb := Lib.hid (Blk.below hBb.out hb)
              replace hT := Lib.hid (Blk.below hT.out hb)
              replace hR := Lib.hid (Blk.below hR.out hb)
              replace hMk := Lib.hid ((hb.block D1 (Array.getElem?_eq_some_iff.1 hMk.out).1).trans hMk.out)
              replace hMk2 := Lib.hid ((hb.block D2 (Array.getElem?_eq_some_iff.1 hMk2.out).1).trans hMk2.out)
              clear hb cCr a0 b0 a1 b1 a2 b2 a3 b3 a4 b4 a5 b5
              have a0 : w20.cell? ⟨w.heap.size, 0, none⟩ = some (.bool an) := hA.out.cell 0
              have a1 : w20.cell? ⟨w.heap.size, 1, none⟩ = some (.string aa) := hA.out.cell 1
              have a2 : w20.cell? ⟨w.heap.size, 2, none⟩ = some (.string ad) := hA.out.cell 2
              have a3 : w20.cell? ⟨w.heap.size, 3, none⟩ = some (.bool am) := hA.out.cell 3
              have a4 : w20.cell? ⟨w.heap.size, 4, none⟩ = some (.string ab) := hA.out.cell 4
              have a5 : w20.cell? ⟨w.heap.size, 5, none⟩ = some (.string ac) := hA.out.cell 5
              have b0 : w20.cell? ⟨w.heap.size + 1, 0, none⟩ = some (.bool bn) := hBb.out.cell 0
              have b1 : w20.cell? ⟨w.heap.size + 1, 1, none⟩ = some (.string ba) := hBb.out.cell 1
              have b2 : w20.cell? ⟨w.heap.size + 1, 2, none⟩ = some (.string bd) := hBb.out.cell 2
              have b3 : w20.cell? ⟨w.heap.size + 1, 3, none⟩ = some (.bool bm) := hBb.out.cell 3
              have b4 : w20.cell? ⟨w.heap.size + 1, 4, none⟩ = some (.string bb) := hBb.out.cell 4
              have b5 : w20.cell? ⟨w.heap.size + 1, 5, none⟩ = some (.string bc) := hBb.out.cell 5
              go_wp2_with fail
              refine (cCs.out _).mono ?_
              rintro en w21 ⟨rfl, hb⟩
              replace hB := Lib.hid (hB.out.trans (hb.mono hB.out.size))
              replace hA := Lib.hid (Blk.below hA.out hb)
              replace hBb := Lib.hid (Blk.below hBb.out hb)
              replace hT := Lib.hid (Blk.below hT.out hb)
              replace hR := Lib.hid (Blk.below hR.out hb)
              replace hMk := Lib.hid ((hb.block D1 (Array.getElem?_eq_some_iff.1 hMk.out).1).trans hMk.out)
              replace hMk2 := Lib.hid ((hb.block D2 (Array.getElem?_eq_some_iff.1 hMk2.out).1).trans hMk2.out)
              clear hb cCs a0 b0 a1 b1 a2 b2 a3 b3 a4 b4 a5 b5
              go_wp2_with fail
              refine (cAw.out _).mono ?_
              rintro en w22 ⟨rfl, hb⟩
              replace hB := Lib.hid (hB.out.trans (hb.mono hB.out.size))
              replace hA := Lib.hid (Blk.below hA.out hb)
              replace hBb := Lib.hid (Blk.below hBb.out hb)
              replace hT := Lib.hid (Blk.below hT.out hb)
              replace hR := Lib.hid (Blk.below hR.out hb)
              replace hMk := Lib.hid ((hb.block D1 (Array.getElem?_eq_some_iff.1 hMk.out).1).trans hMk.out)
              replace hMk2 := Lib.hid ((hb.block D2 (Array.getElem?_eq_some_iff.1 hMk2.out).1).trans hMk2.out)
              clear hb
              have r0 : w22.cell? ⟨w.heap.size + 1 + 1 + 1, 0, none⟩ = some (.bool false) := hR.out.cell 0
              have r1 := hR.out.frozen 0
              have kr2 := Lib.hid (blk_put (blk_put (hR.out.set_ 0 (.bool true)) (show w.heap.size + 1 + 1 + 1 ≠ D2 by have := hltD2.out; omega) (.deferred none)) (show w.heap.size + 1 + 1 + 1 ≠ D1 by have := hltD1.out; omega) (.deferred none))
              have hB2 := Lib.hid (below_put (below_put (hB.out.setCell (p := ⟨w.heap.size + 1 + 1 + 1, 0, none⟩) (by simp; omega) (.bool true)) (show w.heap.size ≤ D2 by have := hltD2.out; omega) (.deferred none)) (show w.heap.size ≤ D1 by have := hltD1.out; omega) (.deferred none))
              have hk0 := Lib.hid (put_set (p := ⟨w.heap.size + 1 + 1 + 1, 0, none⟩) hMk2.out (show D2 ≠ w.heap.size + 1 + 1 + 1 by have := hltD2.out; omega) (.bool true))
              have hk1 := Lib.hid (put_set (p := ⟨w.heap.size + 1 + 1 + 1, 0, none⟩) hMk.out (show D1 ≠ w.heap.size + 1 + 1 + 1 by have := hltD1.out; omega) (.bool true))
              clear hR hB hMk2 hMk
              go_wp2_with fail
              have q0 := kr2.out.cell 0
              refine leaves_two hk0.out hk1.out hDD.out (v := .bool true) (by simp [results, Try.results3, go_sem, q0]) ⟨rfl, hB2.out⟩
            case pos =>
              obtain ⟨la, qa1, qa2, rfl, rfl, rfl, rfl, rfl, rfl⟩ := chkLf_zero hz.1
              obtain ⟨lb, qb1, qb2, rfl, rfl, rfl, rfl, rfl, rfl⟩ := chkLf_zero hz.2
              have hla : Lfp la := ⟨qa1, qa2⟩
              have hlb : Lfp lb := ⟨qb1, qb2⟩
              have e1 : crossLf false (natS la.1.1) (natS la.1.2) false (natS la.2.1) (natS la.2.2) false (natS lb.1.1) (natS lb.1.2) false (natS lb.2.1) (natS lb.2.2) = (crossP la lb, 0) := crossLf_lfp hla hlb
              have e2 : crossLf false (natS lb.1.1) (natS lb.1.2) false (natS lb.2.1) (natS lb.2.2) false (natS la.1.1) (natS la.1.2) false (natS la.2.1) (natS la.2.2) = (crossP la lb, 0) := by rw [crossLf_lfp hlb hla, crossP_symm hlb hla]
              rw [e1] at cCr
              rw [e2] at cCs
              obtain ⟨bc, hbc⟩ : ∃ b, b = crossP la lb := ⟨_, rfl⟩
              rw [← hbc] at cCr cCs
              replace hbc := Lib.hid hbc
              replace hla := Lib.hid hla
              replace hlb := Lib.hid hlb
              have cAd := Lib.hid (fun (z : Nat × Nat) (W : World) (hz : Ang z) => add_any false (natS z.1) (natS z.2) tn ta td W hz.sz'.1 hz.sz'.2 zt1 zt2)
              clear e1 e2 qa1 qa2 qb1 qb2 hz
              go_wp2_with fail
              refine (cCr.out _).mono ?_
              rintro en w20 ⟨rfl, hb⟩
              replace hB := Lib.hid (hB.out.trans (hb.mono hB.out.size))
              replace hA := Lib.hid (Blk.below hA.out hb)
              replace hBb := Lib.hid (Blk.below hBb.out hb)
              replace hT := Lib.hid (Blk.below hT.out hb)
              replace hR := Lib.hid (Blk.below hR.out hb)
              replace hMk := Lib.hid ((hb.block D1 (Array.getElem?_eq_some_iff.1 hMk.out).1).trans hMk.out)
              replace hMk2 := Lib.hid ((hb.block D2 (Array.getElem?_eq_some_iff.1 hMk2.out).1).trans hMk2.out)
              clear hb cCr a0 b0 a1 b1 a2 b2 a3 b3 a4 b4 a5 b5
              have a0 : w20.cell? ⟨w.heap.size, 0, none⟩ = some (.bool false) := hA.out.cell 0
              have a1 : w20.cell? ⟨w.heap.size, 1, none⟩ = some (.string (natS la.1.1)) := hA.out.cell 1
              have a2 : w20.cell? ⟨w.heap.size, 2, none⟩ = some (.string (natS la.1.2)) := hA.out.cell 2
              have a3 : w20.cell? ⟨w.heap.size, 3, none⟩ = some (.bool false) := hA.out.cell 3
              have a4 : w20.cell? ⟨w.heap.size, 4, none⟩ = some (.string (natS la.2.1)) := hA.out.cell 4
              have a5 : w20.cell? ⟨w.heap.size, 5, none⟩ = some (.string (natS la.2.2)) := hA.out.cell 5
              have b0 : w20.cell? ⟨w.heap.size + 1, 0, none⟩ = some (.bool false) := hBb.out.cell 0
              have b1 : w20.cell? ⟨w.heap.size + 1, 1, none⟩ = some (.string (natS lb.1.1)) := hBb.out.cell 1
              have b2 : w20.cell? ⟨w.heap.size + 1, 2, none⟩ = some (.string (natS lb.1.2)) := hBb.out.cell 2
              have b3 : w20.cell? ⟨w.heap.size + 1, 3, none⟩ = some (.bool false) := hBb.out.cell 3
              have b4 : w20.cell? ⟨w.heap.size + 1, 4, none⟩ = some (.string (natS lb.2.1)) := hBb.out.cell 4
              have b5 : w20.cell? ⟨w.heap.size + 1, 5, none⟩ = some (.string (natS lb.2.2)) := hBb.out.cell 5
              go_wp2_with fail
              refine (cCs.out _).mono ?_
              rintro en w21 ⟨rfl, hb⟩
              replace hB := Lib.hid (hB.out.trans (hb.mono hB.out.size))
              replace hA := Lib.hid (Blk.below hA.out hb)
              replace hBb := Lib.hid (Blk.below hBb.out hb)
              replace hT := Lib.hid (Blk.below hT.out hb)
              replace hR := Lib.hid (Blk.below hR.out hb)
              replace hMk := Lib.hid ((hb.block D1 (Array.getElem?_eq_some_iff.1 hMk.out).1).trans hMk.out)
              replace hMk2 := Lib.hid ((hb.block D2 (Array.getElem?_eq_some_iff.1 hMk2.out).1).trans hMk2.out)
              clear hb cCs a0 b0 a1 b1 a2 b2 a3 b3 a4 b4 a5 b5
              go_upto_region 30 with fail
              have hE := Lib.hid (Blk.new w21 40 #[.bool false, .string ⟨#[]⟩, .string ⟨#[]⟩, .bool false, .string ⟨#[]⟩, .string ⟨#[]⟩, .bool false, .string ⟨#[]⟩, .string ⟨#[]⟩, .bool false, .string ⟨#[]⟩, .string ⟨#[]⟩])
              have hge3 : w.heap.size + 1 + 1 + 1 < w21.heap.size := hR.out.lt
              have hb : Below w21.heap.size w21 (w21.alloc (.cells #[.bool false, .string ⟨#[]⟩, .string ⟨#[]⟩, .bool false, .string ⟨#[]⟩, .string ⟨#[]⟩, .bool false, .string ⟨#[]⟩, .string ⟨#[]⟩, .bool false, .string ⟨#[]⟩, .string ⟨#[]⟩] 40)) := (Below.refl _ _).alloc (Nat.le_refl _) _
              replace hB := Lib.hid (hB.out.trans (hb.mono hB.out.size))
              replace hA := Lib.hid (Blk.below hA.out hb)
              replace hBb := Lib.hid (Blk.below hBb.out hb)
              replace hT := Lib.hid (Blk.below hT.out hb)
              replace hR := Lib.hid (Blk.below hR.out hb)
              replace hMk := Lib.hid ((hb.block D1 (Array.getElem?_eq_some_iff.1 hMk.out).1).trans hMk.out)
              replace hMk2 := Lib.hid ((hb.block D2 (Array.getElem?_eq_some_iff.1 hMk2.out).1).trans hMk2.out)
              clear hb
              generalize hW : w21.alloc (.cells #[.bool false, .string ⟨#[]⟩, .string ⟨#[]⟩, .bool false, .string ⟨#[]⟩, .string ⟨#[]⟩, .bool false, .string ⟨#[]⟩, .string ⟨#[]⟩, .bool false, .string ⟨#[]⟩, .string ⟨#[]⟩] 40) = w22 at hB hA hBb hT hR hMk hMk2 hE hge3 ⊢
              generalize hgg : w21.heap.size = ge at hE hge3 ⊢
              clear hW hgg
              have a0 : w22.cell? ⟨w.heap.size, 0, none⟩ = some (.bool false) := hA.out.cell 0
              have a1 : w22.cell? ⟨w.heap.size, 1, none⟩ = some (.string (natS la.1.1)) := hA.out.cell 1
              have a2 : w22.cell? ⟨w.heap.size, 2, none⟩ = some (.string (natS la.1.2)) := hA.out.cell 2
              have a3 : w22.cell? ⟨w.heap.size, 3, none⟩ = some (.bool false) := hA.out.cell 3
              have a4 : w22.cell? ⟨w.heap.size, 4, none⟩ = some (.string (natS la.2.1)) := hA.out.cell 4
              have a5 : w22.cell? ⟨w.heap.size, 5, none⟩ = some (.string (natS la.2.2)) := hA.out.cell 5
              have b0 : w22.cell? ⟨w.heap.size + 1, 0, none⟩ = some (.bool false) := hBb.out.cell 0
              have b1 : w22.cell? ⟨w.heap.size + 1, 1, none⟩ = some (.string (natS lb.1.1)) := hBb.out.cell 1
              have b2 : w22.cell? ⟨w.heap.size + 1, 2, none⟩ = some (.string (natS lb.1.2)) := hBb.out.cell 2
              have b3 : w22.cell? ⟨w.heap.size + 1, 3, none⟩ = some (.bool false) := hBb.out.cell 3
              have b4 : w22.cell? ⟨w.heap.size + 1, 4, none⟩ = some (.string (natS lb.2.1)) := hBb.out.cell 4
              have b5 : w22.cell? ⟨w.heap.size + 1, 5, none⟩ = some (.string (natS lb.2.2)) := hBb.out.cell 5
              go_wp2_with fail
              have hZ := Lib.hid (Blk.new w22 25 #[.bool false, .string (natS la.1.1), .string (natS la.1.2), .bool false, .string (natS la.2.1), .string (natS la.2.2), .bool false, .string (natS lb.1.1), .string (natS lb.1.2), .bool false, .string (natS lb.2.1), .string (natS lb.2.2)])
              clear a0 b0 a1 b1 a2 b2 a3 b3 a4 b4 a5 b5
              have hgez : ge < w22.heap.size := hE.out.lt
              have hb : Below w22.heap.size w22 (w22.alloc (.cells #[.bool false, .string (natS la.1.1), .string (natS la.1.2), .bool false, .string (natS la.2.1), .string (natS la.2.2), .bool false, .string (natS lb.1.1), .string (natS lb.1.2), .bool false, .string (natS lb.2.1), .string (natS lb.2.2)] 25)) := (Below.refl _ _).alloc (Nat.le_refl _) _
              replace hB := Lib.hid (hB.out.trans (hb.mono hB.out.size))
              replace hA := Lib.hid (Blk.below hA.out hb)
              replace hBb := Lib.hid (Blk.below hBb.out hb)
              replace hT := Lib.hid (Blk.below hT.out hb)
              replace hR := Lib.hid (Blk.below hR.out hb)
              replace hE := Lib.hid (Blk.below hE.out hb)
              replace hMk := Lib.hid ((hb.block D1 (Array.getElem?_eq_some_iff.1 hMk.out).1).trans hMk.out)
              replace hMk2 := Lib.hid ((hb.block D2 (Array.getElem?_eq_some_iff.1 hMk2.out).1).trans hMk2.out)
              clear hb
              generalize hW : w22.alloc (.cells #[.bool false, .string (natS la.1.1), .string (natS la.1.2), .bool false, .string (natS la.2.1), .string (natS la.2.2), .bool false, .string (natS lb.1.1), .string (natS lb.1.2), .bool false, .string (natS lb.2.1), .string (natS lb.2.2)] 25) = w23 at hB hA hBb hT hR hE hMk hMk2 hZ hgez ⊢
              generalize hgg : w22.heap.size = gz at hZ hgez ⊢
              clear hW hgg
              refine wp_loop_rounds 5 ?_
              rw [rounds_succ]
              by_cases hok : okA tn ta td = true
              case neg =>
                have cA0 : Hid (∀ W, Calls Try.prog 11 #[.agg #[.bool false, .string (natS la.1.1), .string (natS la.1.2)], .agg #[.bool tn, .string ta, .string td]] W (RetVal (.tuple #[.agg #[.bool false, .string ⟨#[]⟩, .string ⟨#[]⟩], .int .i64 210]) W)) := Lib.hid (fun W => by
                  have h := cAd.out la.1 W hla.out.1.1
                  rw [addV_bad hok] at h
                  exact h)
                clear cAd hok
                have z0 : w23.cell? ⟨gz, 0, none⟩ = some (.bool false) := hZ.out.cell 0
                have z1 : w23.cell? ⟨gz, 1, none⟩ = some (.string (natS la.1.1)) := hZ.out.cell 1
                have z2 : w23.cell? ⟨gz, 2, none⟩ = some (.string (natS la.1.2)) := hZ.out.cell 2
                go_upto_region 33 with fail
                have hX := Lib.hid (Blk.new w23 25 #[.bool false, .string (natS la.1.1), .string (natS la.1.2)])
                clear z0 z1 z2
                have hb : Below w23.heap.size w23 (w23.alloc (.cells #[.bool false, .string (natS la.1.1), .string (natS la.1.2)] 25)) := (Below.refl _ _).alloc (Nat.le_refl _) _
                replace hB := Lib.hid (hB.out.trans (hb.mono hB.out.size))
                replace hA := Lib.hid (Blk.below hA.out hb)
                replace hBb := Lib.hid (Blk.below hBb.out hb)
                replace hT := Lib.hid (Blk.below hT.out hb)
                replace hR := Lib.hid (Blk.below hR.out hb)
                replace hE := Lib.hid (Blk.below hE.out hb)
                replace hZ := Lib.hid (Blk.below hZ.out hb)
                replace hMk := Lib.hid ((hb.block D1 (Array.getElem?_eq_some_iff.1 hMk.out).1).trans hMk.out)
                replace hMk2 := Lib.hid ((hb.block D2 (Array.getElem?_eq_some_iff.1 hMk2.out).1).trans hMk2.out)
                clear hb
                generalize hW : w23.alloc (.cells #[.bool false, .string (natS la.1.1), .string (natS la.1.2)] 25) = w24 at hB hA hBb hT hR hE hZ hMk hMk2 hX ⊢
                generalize hgg : w23.heap.size = gx at hX ⊢
                clear hW hgg
                have z0 : w24.cell? ⟨gx, 0, none⟩ = some (.bool false) := hX.out.cell 0
                have z1 : w24.cell? ⟨gx, 1, none⟩ = some (.string (natS la.1.1)) := hX.out.cell 1
                have z2 : w24.cell? ⟨gx, 2, none⟩ = some (.string (natS la.1.2)) := hX.out.cell 2
                have t0 : w24.cell? ⟨w.heap.size + 1 + 1, 0, none⟩ = some (.bool tn) := hT.out.cell 0
                have t1 : w24.cell? ⟨w.heap.size + 1 + 1, 1, none⟩ = some (.string ta) := hT.out.cell 1
                have t2 : w24.cell? ⟨w.heap.size + 1 + 1, 2, none⟩ = some (.string td) := hT.out.cell 2
                go_wp2_with fail
                refine (cA0.out _).mono ?_
                rintro en w25 ⟨rfl, hb⟩
                replace hB := Lib.hid (hB.out.trans (hb.mono hB.out.size))
                replace hA := Lib.hid (Blk.below hA.out hb)
                replace hBb := Lib.hid (Blk.below hBb.out hb)
                replace hT := Lib.hid (Blk.below hT.out hb)
                replace hR := Lib.hid (Blk.below hR.out hb)
                replace hE := Lib.hid (Blk.below hE.out hb)
                replace hZ := Lib.hid (Blk.below hZ.out hb)
                replace hMk := Lib.hid ((hb.block D1 (Array.getElem?_eq_some_iff.1 hMk.out).1).trans hMk.out)
                replace hMk2 := Lib.hid ((hb.block D2 (Array.getElem?_eq_some_iff.1 hMk2.out).1).trans hMk2.out)
                clear hb cA0 hX z0 z1 z2 t0 t1 t2 hZ hE hA hBb
                go_upto_region 35 with fail
                have hb : Below w25.heap.size w25 (w25.alloc (.cells #[.bool false, .string ⟨#[]⟩, .string ⟨#[]⟩] 25)) := (Below.refl _ _).alloc (Nat.le_refl _) _
                replace hB := Lib.hid (hB.out.trans (hb.mono hB.out.size))
                replace hT := Lib.hid (Blk.below hT.out hb)
                replace hR := Lib.hid (Blk.below hR.out hb)
                replace hMk := Lib.hid ((hb.block D1 (Array.getElem?_eq_some_iff.1 hMk.out).1).trans hMk.out)
                replace hMk2 := Lib.hid ((hb.block D2 (Array.getElem?_eq_some_iff.1 hMk2.out).1).trans hMk2.out)
                clear hb
                generalize hW : w25.alloc (.cells #[.bool false, .string ⟨#[]⟩, .string ⟨#[]⟩] 25) = w26 at hB hT hR hMk hMk2 ⊢
                clear hW
                go_wp2_with fail
                refine (cAw.out _).mono ?_
                rintro en w27 ⟨rfl, hb⟩
                replace hB := Lib.hid (hB.out.trans (hb.mono hB.out.size))
                replace hT := Lib.hid (Blk.below hT.out hb)
                replace hR := Lib.hid (Blk.below hR.out hb)
                replace hMk := Lib.hid ((hb.block D1 (Array.getElem?_eq_some_iff.1 hMk.out).1).trans hMk.out)
                replace hMk2 := Lib.hid ((hb.block D2 (Array.getElem?_eq_some_iff.1 hMk2.out).1).trans hMk2.out)
                clear hb
                have r0 : w27.cell? ⟨w.heap.size + 1 + 1 + 1, 0, none⟩ = some (.bool false) := hR.out.cell 0
                have r1 := hR.out.frozen 0
                have kr2 := Lib.hid (blk_put (blk_put (hR.out.set_ 0 (.bool true)) (show w.heap.size + 1 + 1 + 1 ≠ D2 by have := hltD2.out; omega) (.deferred none)) (show w.heap.size + 1 + 1 + 1 ≠ D1 by have := hltD1.out; omega) (.deferred none))
                have hB2 := Lib.hid (below_put (below_put (hB.out.setCell (p := ⟨w.heap.size + 1 + 1 + 1, 0, none⟩) (by simp; omega) (.bool true)) (show w.heap.size ≤ D2 by have := hltD2.out; omega) (.deferred none)) (show w.heap.size ≤ D1 by have := hltD1.out; omega) (.deferred none))
                have hk0 := Lib.hid (put_set (p := ⟨w.heap.size + 1 + 1 + 1, 0, none⟩) hMk2.out (show D2 ≠ w.heap.size + 1 + 1 + 1 by have := hltD2.out; omega) (.bool true))
                have hk1 := Lib.hid (put_set (p := ⟨w.heap.size + 1 + 1 + 1, 0, none⟩) hMk.out (show D1 ≠ w.heap.size + 1 + 1 + 1 by have := hltD1.out; omega) (.bool true))
                clear hR hB hMk2 hMk
                go_wp2_with fail
                have q0 := kr2.out.cell 0
                refine leaves_two hk0.out hk1.out hDD.out (v := .bool true) (by simp [results, Try.results3, go_sem, q0]) ⟨rfl, hB2.out⟩
              case pos =>
                obtain ⟨t, htA, rfl, rfl, rfl⟩ : ∃ t : Nat × Nat, Ang t ∧ tn = false ∧ ta = natS t.1 ∧ td = natS t.2 := by
                  obtain ⟨h1, h2, h3, h4⟩ := Ang.of_ok hok
                  exact ⟨_, h1, h2, h3, h4⟩
                have cOk : Hid (∀ (z : Nat × Nat) W, Ang z → (rotP t z).2 ≤ 2147483647 → Calls Try.prog 11 #[.agg #[.bool false, .string (natS z.1), .string (natS z.2)], .agg #[.bool false, .string (natS t.1), .string (natS t.2)]] W (RetVal (.tuple #[.agg #[.bool false, .string (natS (rotP t z).1), .string (natS (rotP t z).2)], .int .i64 0]) W)) := Lib.hid (fun z W hz h => by
                  have h1 := cAd.out z W hz
                  rw [addV_rot hz htA, if_pos h] at h1
                  exact h1)
                have cNo : Hid (∀ (z : Nat × Nat) W, Ang z → ¬ (rotP t z).2 ≤ 2147483647 → Calls Try.prog 11 #[.agg #[.bool false, .string (natS z.1), .string (natS z.2)], .agg #[.bool false, .string (natS t.1), .string (natS t.2)]] W (RetVal (.tuple #[.agg #[.bool false, .string ⟨#[]⟩, .string ⟨#[]⟩], .int .i64 210]) W)) := Lib.hid (fun z W hz h => by
                  have h1 := cAd.out z W hz
                  rw [addV_rot hz htA, if_neg h] at h1
                  exact h1)
                clear cAd hok
                obtain ⟨r0, hr0⟩ : ∃ r, r = rotP t la.1 := ⟨_, rfl⟩
                by_cases hd0 : r0.2 ≤ 2147483647
                case neg =>
                  have cA0 := Lib.hid (fun W => cNo.out la.1 W hla.out.1.1 (by rw [← hr0]; exact hd0))
                  clear hd0 cOk cNo
                  replace hr0 := Lib.hid hr0
                  have z0 : w23.cell? ⟨gz, 0, none⟩ = some (.bool false) := hZ.out.cell 0
                  have z1 : w23.cell? ⟨gz, 1, none⟩ = some (.string (natS la.1.1)) := hZ.out.cell 1
                  have z2 : w23.cell? ⟨gz, 2, none⟩ = some (.string (natS la.1.2)) := hZ.out.cell 2
                  go_upto_region 33 with fail
                  have hX := Lib.hid (Blk.new w23 25 #[.bool false, .string (natS la.1.1), .string (natS la.1.2)])
                  clear z0 z1 z2
                  have hb : Below w23.heap.size w23 (w23.alloc (.cells #[.bool false, .string (natS la.1.1), .string (natS la.1.2)] 25)) := (Below.refl _ _).alloc (Nat.le_refl _) _
                  replace hB := Lib.hid (hB.out.trans (hb.mono hB.out.size))
                  replace hA := Lib.hid (Blk.below hA.out hb)
                  replace hBb := Lib.hid (Blk.below hBb.out hb)
                  replace hT := Lib.hid (Blk.below hT.out hb)
                  replace hR := Lib.hid (Blk.below hR.out hb)
                  replace hE := Lib.hid (Blk.below hE.out hb)
                  replace hZ := Lib.hid (Blk.below hZ.out hb)
                  replace hMk := Lib.hid ((hb.block D1 (Array.getElem?_eq_some_iff.1 hMk.out).1).trans hMk.out)
                  replace hMk2 := Lib.hid ((hb.block D2 (Array.getElem?_eq_some_iff.1 hMk2.out).1).trans hMk2.out)
                  clear hb
                  generalize hW : w23.alloc (.cells #[.bool false, .string (natS la.1.1), .string (natS la.1.2)] 25) = w24 at hB hA hBb hT hR hE hZ hMk hMk2 hX ⊢
                  generalize hgg : w23.heap.size = gx at hX ⊢
                  clear hW hgg
                  have z0 : w24.cell? ⟨gx, 0, none⟩ = some (.bool false) := hX.out.cell 0
                  have z1 : w24.cell? ⟨gx, 1, none⟩ = some (.string (natS la.1.1)) := hX.out.cell 1
                  have z2 : w24.cell? ⟨gx, 2, none⟩ = some (.string (natS la.1.2)) := hX.out.cell 2
                  have t0 : w24.cell? ⟨w.heap.size + 1 + 1, 0, none⟩ = some (.bool false) := hT.out.cell 0
                  have t1 : w24.cell? ⟨w.heap.size + 1 + 1, 1, none⟩ = some (.string (natS t.1)) := hT.out.cell 1
                  have t2 : w24.cell? ⟨w.heap.size + 1 + 1, 2, none⟩ = some (.string (natS t.2)) := hT.out.cell 2
                  go_wp2_with fail
                  refine (cA0.out _).mono ?_
                  rintro en w25 ⟨rfl, hb⟩
                  replace hB := Lib.hid (hB.out.trans (hb.mono hB.out.size))
                  replace hA := Lib.hid (Blk.below hA.out hb)
                  replace hBb := Lib.hid (Blk.below hBb.out hb)
                  replace hT := Lib.hid (Blk.below hT.out hb)
                  replace hR := Lib.hid (Blk.below hR.out hb)
                  replace hE := Lib.hid (Blk.below hE.out hb)
                  replace hZ := Lib.hid (Blk.below hZ.out hb)
                  replace hMk := Lib.hid ((hb.block D1 (Array.getElem?_eq_some_iff.1 hMk.out).1).trans hMk.out)
                  replace hMk2 := Lib.hid ((hb.block D2 (Array.getElem?_eq_some_iff.1 hMk2.out).1).trans hMk2.out)
                  clear hb cA0 hX z0 z1 z2 t0 t1 t2 hZ hE hA hBb
                  go_upto_region 35 with fail
                  have hb : Below w25.heap.size w25 (w25.alloc (.cells #[.bool false, .string ⟨#[]⟩, .string ⟨#[]⟩] 25)) := (Below.refl _ _).alloc (Nat.le_refl _) _
                  replace hB := Lib.hid (hB.out.trans (hb.mono hB.out.size))
                  replace hT := Lib.hid (Blk.below hT.out hb)
                  replace hR := Lib.hid (Blk.below hR.out hb)
                  replace hMk := Lib.hid ((hb.block D1 (Array.getElem?_eq_some_iff.1 hMk.out).1).trans hMk.out)
                  replace hMk2 := Lib.hid ((hb.block D2 (Array.getElem?_eq_some_iff.1 hMk2.out).1).trans hMk2.out)
                  clear hb
                  generalize hW : w25.alloc (.cells #[.bool false, .string ⟨#[]⟩, .string ⟨#[]⟩] 25) = w26 at hB hT hR hMk hMk2 ⊢
                  clear hW
                  go_wp2_with fail
                  refine (cAw.out _).mono ?_
                  rintro en w27 ⟨rfl, hb⟩
                  replace hB := Lib.hid (hB.out.trans (hb.mono hB.out.size))
                  replace hT := Lib.hid (Blk.below hT.out hb)
                  replace hR := Lib.hid (Blk.below hR.out hb)
                  replace hMk := Lib.hid ((hb.block D1 (Array.getElem?_eq_some_iff.1 hMk.out).1).trans hMk.out)
                  replace hMk2 := Lib.hid ((hb.block D2 (Array.getElem?_eq_some_iff.1 hMk2.out).1).trans hMk2.out)
                  clear hb
                  have r0 : w27.cell? ⟨w.heap.size + 1 + 1 + 1, 0, none⟩ = some (.bool false) := hR.out.cell 0
                  have r1 := hR.out.frozen 0
                  have kr2 := Lib.hid (blk_put (blk_put (hR.out.set_ 0 (.bool true)) (show w.heap.size + 1 + 1 + 1 ≠ D2 by have := hltD2.out; omega) (.deferred none)) (show w.heap.size + 1 + 1 + 1 ≠ D1 by have := hltD1.out; omega) (.deferred none))
                  have hB2 := Lib.hid (below_put (below_put (hB.out.setCell (p := ⟨w.heap.size + 1 + 1 + 1, 0, none⟩) (by simp; omega) (.bool true)) (show w.heap.size ≤ D2 by have := hltD2.out; omega) (.deferred none)) (show w.heap.size ≤ D1 by have := hltD1.out; omega) (.deferred none))
                  have hk0 := Lib.hid (put_set (p := ⟨w.heap.size + 1 + 1 + 1, 0, none⟩) hMk2.out (show D2 ≠ w.heap.size + 1 + 1 + 1 by have := hltD2.out; omega) (.bool true))
                  have hk1 := Lib.hid (put_set (p := ⟨w.heap.size + 1 + 1 + 1, 0, none⟩) hMk.out (show D1 ≠ w.heap.size + 1 + 1 + 1 by have := hltD1.out; omega) (.bool true))
                  clear hR hB hMk2 hMk
                  go_wp2_with fail
                  have q0 := kr2.out.cell 0
                  refine leaves_two hk0.out hk1.out hDD.out (v := .bool true) (by simp [results, Try.results3, go_sem, q0]) ⟨rfl, hB2.out⟩
                case pos =>
                  have cA0 := Lib.hid (fun W => cOk.out la.1 W hla.out.1.1 (by rw [← hr0]; exact hd0))
                  rw [← hr0] at cA0
                  replace hd0 := Lib.hid hd0
                  replace hr0 := Lib.hid hr0
                  have z0 : w23.cell? ⟨gz, 0, none⟩ = some (.bool false) := hZ.out.cell 0
                  have z1 : w23.cell? ⟨gz, 1, none⟩ = some (.string (natS la.1.1)) := hZ.out.cell 1
                  have z2 : w23.cell? ⟨gz, 2, none⟩ = some (.string (natS la.1.2)) := hZ.out.cell 2
                  go_upto_region 33 with fail
                  have hX := Lib.hid (Blk.new w23 25 #[.bool false, .string (natS la.1.1), .string (natS la.1.2)])
                  clear z0 z1 z2
                  have hb : Below w23.heap.size w23 (w23.alloc (.cells #[.bool false, .string (natS la.1.1), .string (natS la.1.2)] 25)) := (Below.refl _ _).alloc (Nat.le_refl _) _
                  replace hB := Lib.hid (hB.out.trans (hb.mono hB.out.size))
                  replace hA := Lib.hid (Blk.below hA.out hb)
                  replace hBb := Lib.hid (Blk.below hBb.out hb)
                  replace hT := Lib.hid (Blk.below hT.out hb)
                  replace hR := Lib.hid (Blk.below hR.out hb)
                  replace hE := Lib.hid (Blk.below hE.out hb)
                  replace hZ := Lib.hid (Blk.below hZ.out hb)
                  replace hMk := Lib.hid ((hb.block D1 (Array.getElem?_eq_some_iff.1 hMk.out).1).trans hMk.out)
                  replace hMk2 := Lib.hid ((hb.block D2 (Array.getElem?_eq_some_iff.1 hMk2.out).1).trans hMk2.out)
                  clear hb
                  generalize hW : w23.alloc (.cells #[.bool false, .string (natS la.1.1), .string (natS la.1.2)] 25) = w24 at hB hA hBb hT hR hE hZ hMk hMk2 hX ⊢
                  generalize hgg : w23.heap.size = gx at hX ⊢
                  clear hW hgg
                  have z0 : w24.cell? ⟨gx, 0, none⟩ = some (.bool false) := hX.out.cell 0
                  have z1 : w24.cell? ⟨gx, 1, none⟩ = some (.string (natS la.1.1)) := hX.out.cell 1
                  have z2 : w24.cell? ⟨gx, 2, none⟩ = some (.string (natS la.1.2)) := hX.out.cell 2
                  have t0 : w24.cell? ⟨w.heap.size + 1 + 1, 0, none⟩ = some (.bool false) := hT.out.cell 0
                  have t1 : w24.cell? ⟨w.heap.size + 1 + 1, 1, none⟩ = some (.string (natS t.1)) := hT.out.cell 1
                  have t2 : w24.cell? ⟨w.heap.size + 1 + 1, 2, none⟩ = some (.string (natS t.2)) := hT.out.cell 2
                  go_wp2_with fail
                  refine (cA0.out _).mono ?_
                  rintro en w25 ⟨rfl, hb⟩
                  replace hB := Lib.hid (hB.out.trans (hb.mono hB.out.size))
                  replace hA := Lib.hid (Blk.below hA.out hb)
                  replace hBb := Lib.hid (Blk.below hBb.out hb)
                  replace hT := Lib.hid (Blk.below hT.out hb)
                  replace hR := Lib.hid (Blk.below hR.out hb)
                  replace hE := Lib.hid (Blk.below hE.out hb)
                  replace hZ := Lib.hid (Blk.below hZ.out hb)
                  replace hMk := Lib.hid ((hb.block D1 (Array.getElem?_eq_some_iff.1 hMk.out).1).trans hMk.out)
                  replace hMk2 := Lib.hid ((hb.block D2 (Array.getElem?_eq_some_iff.1 hMk2.out).1).trans hMk2.out)
                  clear hb cA0 hX z0 z1 z2 t0 t1 t2
                  go_upto_region 36 with fail
                  have hX := Lib.hid (Blk.new w25 25 #[.bool false, .string (natS r0.1), .string (natS r0.2)])
                  have hb : Below w25.heap.size w25 (w25.alloc (.cells #[.bool false, .string (natS r0.1), .string (natS r0.2)] 25)) := (Below.refl _ _).alloc (Nat.le_refl _) _
                  replace hB := Lib.hid (hB.out.trans (hb.mono hB.out.size))
                  replace hA := Lib.hid (Blk.below hA.out hb)
                  replace hBb := Lib.hid (Blk.below hBb.out hb)
                  replace hT := Lib.hid (Blk.below hT.out hb)
                  replace hR := Lib.hid (Blk.below hR.out hb)
                  replace hE := Lib.hid (Blk.below hE.out hb)
                  replace hZ := Lib.hid (Blk.below hZ.out hb)
                  replace hMk := Lib.hid ((hb.block D1 (Array.getElem?_eq_some_iff.1 hMk.out).1).trans hMk.out)
                  replace hMk2 := Lib.hid ((hb.block D2 (Array.getElem?_eq_some_iff.1 hMk2.out).1).trans hMk2.out)
                  clear hb
                  generalize hW : w25.alloc (.cells #[.bool false, .string (natS r0.1), .string (natS r0.2)] 25) = w26 at hB hA hBb hT hR hE hZ hMk hMk2 hX ⊢
                  generalize hgg : w25.heap.size = gx at hX ⊢
                  clear hW hgg
                  have z0 : w26.cell? ⟨gx, 0, none⟩ = some (.bool false) := hX.out.cell 0
                  have z1 : w26.cell? ⟨gx, 1, none⟩ = some (.string (natS r0.1)) := hX.out.cell 1
                  have z2 : w26.cell? ⟨gx, 2, none⟩ = some (.string (natS r0.2)) := hX.out.cell 2
                  have e0 : w26.cell? ⟨ge, 0, none⟩ = some (.bool false) := hE.out.cell 0
                  have f0 := hE.out.frozen 0
                  have e1 : w26.cell? ⟨ge, 1, none⟩ = some (.string ⟨#[]⟩) := hE.out.cell 1
                  have f1 := hE.out.frozen 1
                  have e2 : w26.cell? ⟨ge, 2, none⟩ = some (.string ⟨#[]⟩) := hE.out.cell 2
                  have f2 := hE.out.frozen 2
                  have hbut : But (fun k => k = ge) w26 (((w26.setCell ⟨ge, 0, none⟩ (.bool false)).setCell ⟨ge, 1, none⟩ (.string (natS r0.1))).setCell ⟨ge, 2, none⟩ (.string (natS r0.2))) := But.set3 w26 ge 0 1 2 _ _ _
                  have hE2 := (((hE.out.set_ 0 (.bool false)).set_ 1 (.string (natS r0.1))).set_ 2 (.string (natS r0.2)))
                  replace hE2 : Blk (((w26.setCell ⟨ge, 0, none⟩ (.bool false)).setCell ⟨ge, 1, none⟩ (.string (natS r0.1))).setCell ⟨ge, 2, none⟩ (.string (natS r0.2))) ge 40 #[.bool false, .string (natS r0.1), .string (natS r0.2), .bool false, .string ⟨#[]⟩, .string ⟨#[]⟩, .bool false, .string ⟨#[]⟩, .string ⟨#[]⟩, .bool false, .string ⟨#[]⟩, .string ⟨#[]⟩] := hE2
                  have hA' := Blk.but hA.out hbut (by omega)
                  have hBb' := Blk.but hBb.out hbut (by omega)
                  have hT' := Blk.but hT.out hbut (by omega)
                  have hR' := Blk.but hR.out hbut (by omega)
                  have hZ' := Blk.but hZ.out hbut (by omega)
                  have hMk' := (hbut.block D1 (Array.getElem?_eq_some_iff.1 hMk.out).1 (fun e => blk_deferred hE.out (e ▸ hMk.out))).trans hMk.out
                  have hMk2' := (hbut.block D2 (Array.getElem?_eq_some_iff.1 hMk2.out).1 (fun e => blk_deferred hE.out (e ▸ hMk2.out))).trans hMk2.out
                  have hB' := hB.out.trans (hbut.toBelow hB.out.size (fun k hk e => by subst e; omega))
                  go_wp2_with fail
                  generalize hW : (((w26.setCell ⟨ge, 0, none⟩ (.bool false)).setCell ⟨ge, 1, none⟩ (.string (natS r0.1))).setCell ⟨ge, 2, none⟩ (.string (natS r0.2))) = w27 at hE2 hB' hA' hBb' hT' hR' hZ' hMk' hMk2' ⊢
                  clear hW hbut hX z0 z1 z2 e0 e1 e2 f0 f1 f2
                  replace hA := Lib.hid hA'
                  replace hBb := Lib.hid hBb'
                  replace hT := Lib.hid hT'
                  replace hR := Lib.hid hR'
                  replace hZ := Lib.hid hZ'
                  replace hMk := Lib.hid hMk'
                  replace hMk2 := Lib.hid hMk2'
                  replace hE := Lib.hid hE2
                  replace hB := Lib.hid hB'
                  clear hE2 hB' hA' hBb' hT' hR' hZ' hMk' hMk2'
                  rw [rounds_succ]
                  obtain ⟨r1, hr1⟩ : ∃ r, r = rotP t la.2 := ⟨_, rfl⟩
                  by_cases hd1 : r1.2 ≤ 2147483647
                  case neg =>
                    have cA0 := Lib.hid (fun W => cNo.out la.2 W hla.out.1.2 (by rw [← hr1]; exact hd1))
                    clear hd1 cOk cNo
                    replace hr1 := Lib.hid hr1
                    have z0 : w27.cell? ⟨gz, 3, none⟩ = some (.bool false) := hZ.out.cell 3
                    have z1 : w27.cell? ⟨gz, 4, none⟩ = some (.string (natS la.2.1)) := hZ.out.cell 4
                    have z2 : w27.cell? ⟨gz, 5, none⟩ = some (.string (natS la.2.2)) := hZ.out.cell 5
                    go_upto_region 33 with fail
                    have hX := Lib.hid (Blk.new w27 25 #[.bool false, .string (natS la.2.1), .string (natS la.2.2)])
                    clear z0 z1 z2
                    have hb : Below w27.heap.size w27 (w27.alloc (.cells #[.bool false, .string (natS la.2.1), .string (natS la.2.2)] 25)) := (Below.refl _ _).alloc (Nat.le_refl _) _
                    replace hB := Lib.hid (hB.out.trans (hb.mono hB.out.size))
                    replace hA := Lib.hid (Blk.below hA.out hb)
                    replace hBb := Lib.hid (Blk.below hBb.out hb)
                    replace hT := Lib.hid (Blk.below hT.out hb)
                    replace hR := Lib.hid (Blk.below hR.out hb)
                    replace hE := Lib.hid (Blk.below hE.out hb)
                    replace hZ := Lib.hid (Blk.below hZ.out hb)
                    replace hMk := Lib.hid ((hb.block D1 (Array.getElem?_eq_some_iff.1 hMk.out).1).trans hMk.out)
                    replace hMk2 := Lib.hid ((hb.block D2 (Array.getElem?_eq_some_iff.1 hMk2.out).1).trans hMk2.out)
                    clear hb
                    generalize hW : w27.alloc (.cells #[.bool false, .string (natS la.2.1), .string (natS la.2.2)] 25) = w28 at hB hA hBb hT hR hE hZ hMk hMk2 hX ⊢
                    generalize hgg : w27.heap.size = gx at hX ⊢
                    clear hW hgg
                    have z0 : w28.cell? ⟨gx, 0, none⟩ = some (.bool false) := hX.out.cell 0
                    have z1 : w28.cell? ⟨gx, 1, none⟩ = some (.string (natS la.2.1)) := hX.out.cell 1
                    have z2 : w28.cell? ⟨gx, 2, none⟩ = some (.string (natS la.2.2)) := hX.out.cell 2
                    have t0 : w28.cell? ⟨w.heap.size + 1 + 1, 0, none⟩ = some (.bool false) := hT.out.cell 0
                    have t1 : w28.cell? ⟨w.heap.size + 1 + 1, 1, none⟩ = some (.string (natS t.1)) := hT.out.cell 1
                    have t2 : w28.cell? ⟨w.heap.size + 1 + 1, 2, none⟩ = some (.string (natS t.2)) := hT.out.cell 2
                    go_wp2_with fail
                    refine (cA0.out _).mono ?_
                    rintro en w29 ⟨rfl, hb⟩
                    replace hB := Lib.hid (hB.out.trans (hb.mono hB.out.size))
                    replace hA := Lib.hid (Blk.below hA.out hb)
                    replace hBb := Lib.hid (Blk.below hBb.out hb)
                    replace hT := Lib.hid (Blk.below hT.out hb)
                    replace hR := Lib.hid (Blk.below hR.out hb)
                    replace hE := Lib.hid (Blk.below hE.out hb)
                    replace hZ := Lib.hid (Blk.below hZ.out hb)
                    replace hMk := Lib.hid ((hb.block D1 (Array.getElem?_eq_some_iff.1 hMk.out).1).trans hMk.out)
                    replace hMk2 := Lib.hid ((hb.block D2 (Array.getElem?_eq_some_iff.1 hMk2.out).1).trans hMk2.out)
                    clear hb cA0 hX z0 z1 z2 t0 t1 t2 hZ hE hA hBb
                    go_upto_region 35 with fail
                    have hb : Below w29.heap.size w29 (w29.alloc (.cells #[.bool false, .string ⟨#[]⟩, .string ⟨#[]⟩] 25)) := (Below.refl _ _).alloc (Nat.le_refl _) _
                    replace hB := Lib.hid (hB.out.trans (hb.mono hB.out.size))
                    replace hT := Lib.hid (Blk.below hT.out hb)
                    replace hR := Lib.hid (Blk.below hR.out hb)
                    replace hMk := Lib.hid ((hb.block D1 (Array.getElem?_eq_some_iff.1 hMk.out).1).trans hMk.out)
                    replace hMk2 := Lib.hid ((hb.block D2 (Array.getElem?_eq_some_iff.1 hMk2.out).1).trans hMk2.out)
                    clear hb
                    generalize hW : w29.alloc (.cells #[.bool false, .string ⟨#[]⟩, .string ⟨#[]⟩] 25) = w30 at hB hT hR hMk hMk2 ⊢
                    clear hW
                    go_wp2_with fail
                    refine (cAw.out _).mono ?_
                    rintro en w31 ⟨rfl, hb⟩
                    replace hB := Lib.hid (hB.out.trans (hb.mono hB.out.size))
                    replace hT := Lib.hid (Blk.below hT.out hb)
                    replace hR := Lib.hid (Blk.below hR.out hb)
                    replace hMk := Lib.hid ((hb.block D1 (Array.getElem?_eq_some_iff.1 hMk.out).1).trans hMk.out)
                    replace hMk2 := Lib.hid ((hb.block D2 (Array.getElem?_eq_some_iff.1 hMk2.out).1).trans hMk2.out)
                    clear hb
                    have r0 : w31.cell? ⟨w.heap.size + 1 + 1 + 1, 0, none⟩ = some (.bool false) := hR.out.cell 0
                    have r1 := hR.out.frozen 0
                    have kr2 := Lib.hid (blk_put (blk_put (hR.out.set_ 0 (.bool true)) (show w.heap.size + 1 + 1 + 1 ≠ D2 by have := hltD2.out; omega) (.deferred none)) (show w.heap.size + 1 + 1 + 1 ≠ D1 by have := hltD1.out; omega) (.deferred none))
                    have hB2 := Lib.hid (below_put (below_put (hB.out.setCell (p := ⟨w.heap.size + 1 + 1 + 1, 0, none⟩) (by simp; omega) (.bool true)) (show w.heap.size ≤ D2 by have := hltD2.out; omega) (.deferred none)) (show w.heap.size ≤ D1 by have := hltD1.out; omega) (.deferred none))
                    have hk0 := Lib.hid (put_set (p := ⟨w.heap.size + 1 + 1 + 1, 0, none⟩) hMk2.out (show D2 ≠ w.heap.size + 1 + 1 + 1 by have := hltD2.out; omega) (.bool true))
                    have hk1 := Lib.hid (put_set (p := ⟨w.heap.size + 1 + 1 + 1, 0, none⟩) hMk.out (show D1 ≠ w.heap.size + 1 + 1 + 1 by have := hltD1.out; omega) (.bool true))
                    clear hR hB hMk2 hMk
                    go_wp2_with fail
                    have q0 := kr2.out.cell 0
                    refine leaves_two hk0.out hk1.out hDD.out (v := .bool true) (by simp [results, Try.results3, go_sem, q0]) ⟨rfl, hB2.out⟩
                  case pos =>
                    have cA0 := Lib.hid (fun W => cOk.out la.2 W hla.out.1.2 (by rw [← hr1]; exact hd1))
                    rw [← hr1] at cA0
                    replace hd1 := Lib.hid hd1
                    replace hr1 := Lib.hid hr1
                    have z0 : w27.cell? ⟨gz, 3, none⟩ = some (.bool false) := hZ.out.cell 3
                    have z1 : w27.cell? ⟨gz, 4, none⟩ = some (.string (natS la.2.1)) := hZ.out.cell 4
                    have z2 : w27.cell? ⟨gz, 5, none⟩ = some (.string (natS la.2.2)) := hZ.out.cell 5
                    go_upto_region 33 with fail
                    have hX := Lib.hid (Blk.new w27 25 #[.bool false, .string (natS la.2.1), .string (natS la.2.2)])
                    clear z0 z1 z2
                    have hb : Below w27.heap.size w27 (w27.alloc (.cells #[.bool false, .string (natS la.2.1), .string (natS la.2.2)] 25)) := (Below.refl _ _).alloc (Nat.le_refl _) _
                    replace hB := Lib.hid (hB.out.trans (hb.mono hB.out.size))
                    replace hA := Lib.hid (Blk.below hA.out hb)
                    replace hBb := Lib.hid (Blk.below hBb.out hb)
                    replace hT := Lib.hid (Blk.below hT.out hb)
                    replace hR := Lib.hid (Blk.below hR.out hb)
                    replace hE := Lib.hid (Blk.below hE.out hb)
                    replace hZ := Lib.hid (Blk.below hZ.out hb)
                    replace hMk := Lib.hid ((hb.block D1 (Array.getElem?_eq_some_iff.1 hMk.out).1).trans hMk.out)
                    replace hMk2 := Lib.hid ((hb.block D2 (Array.getElem?_eq_some_iff.1 hMk2.out).1).trans hMk2.out)
                    clear hb
                    generalize hW : w27.alloc (.cells #[.bool false, .string (natS la.2.1), .string (natS la.2.2)] 25) = w28 at hB hA hBb hT hR hE hZ hMk hMk2 hX ⊢
                    generalize hgg : w27.heap.size = gx at hX ⊢
                    clear hW hgg
                    have z0 : w28.cell? ⟨gx, 0, none⟩ = some (.bool false) := hX.out.cell 0
                    have z1 : w28.cell? ⟨gx, 1, none⟩ = some (.string (natS la.2.1)) := hX.out.cell 1
                    have z2 : w28.cell? ⟨gx, 2, none⟩ = some (.string (natS la.2.2)) := hX.out.cell 2
                    have t0 : w28.cell? ⟨w.heap.size + 1 + 1, 0, none⟩ = some (.bool false) := hT.out.cell 0
                    have t1 : w28.cell? ⟨w.heap.size + 1 + 1, 1, none⟩ = some (.string (natS t.1)) := hT.out.cell 1
                    have t2 : w28.cell? ⟨w.heap.size + 1 + 1, 2, none⟩ = some (.string (natS t.2)) := hT.out.cell 2
                    go_wp2_with fail
                    refine (cA0.out _).mono ?_
                    rintro en w29 ⟨rfl, hb⟩
                    replace hB := Lib.hid (hB.out.trans (hb.mono hB.out.size))
                    replace hA := Lib.hid (Blk.below hA.out hb)
                    replace hBb := Lib.hid (Blk.below hBb.out hb)
                    replace hT := Lib.hid (Blk.below hT.out hb)
                    replace hR := Lib.hid (Blk.below hR.out hb)
                    replace hE := Lib.hid (Blk.below hE.out hb)
                    replace hZ := Lib.hid (Blk.below hZ.out hb)
                    replace hMk := Lib.hid ((hb.block D1 (Array.getElem?_eq_some_iff.1 hMk.out).1).trans hMk.out)
                    replace hMk2 := Lib.hid ((hb.block D2 (Array.getElem?_eq_some_iff.1 hMk2.out).1).trans hMk2.out)
                    clear hb cA0 hX z0 z1 z2 t0 t1 t2
                    go_upto_region 36 with fail
                    have hX := Lib.hid (Blk.new w29 25 #[.bool false, .string (natS r1.1), .string (natS r1.2)])
                    have hb : Below w29.heap.size w29 (w29.alloc (.cells #[.bool false, .string (natS r1.1), .string (natS r1.2)] 25)) := (Below.refl _ _).alloc (Nat.le_refl _) _
                    replace hB := Lib.hid (hB.out.trans (hb.mono hB.out.size))
                    replace hA := Lib.hid (Blk.below hA.out hb)
                    replace hBb := Lib.hid (Blk.below hBb.out hb)
                    replace hT := Lib.hid (Blk.below hT.out hb)
                    replace hR := Lib.hid (Blk.below hR.out hb)
                    replace hE := Lib.hid (Blk.below hE.out hb)
                    replace hZ := Lib.hid (Blk.below hZ.out hb)
                    replace hMk := Lib.hid ((hb.block D1 (Array.getElem?_eq_some_iff.1 hMk.out).1).trans hMk.out)
                    replace hMk2 := Lib.hid ((hb.block D2 (Array.getElem?_eq_some_iff.1 hMk2.out).1).trans hMk2.out)
                    clear hb
                    generalize hW : w29.alloc (.cells #[.bool false, .string (natS r1.1), .string (natS r1.2)] 25) = w30 at hB hA hBb hT hR hE hZ hMk hMk2 hX ⊢
                    generalize hgg : w29.heap.size = gx at hX ⊢
                    clear hW hgg
                    have z0 : w30.cell? ⟨gx, 0, none⟩ = some (.bool false) := hX.out.cell 0
                    have z1 : w30.cell? ⟨gx, 1, none⟩ = some (.string (natS r1.1)) := hX.out.cell 1
                    have z2 : w30.cell? ⟨gx, 2, none⟩ = some (.string (natS r1.2)) := hX.out.cell 2
                    have e0 : w30.cell? ⟨ge, 3, none⟩ = some (.bool false) := hE.out.cell 3
                    have f0 := hE.out.frozen 3
                    have e1 : w30.cell? ⟨ge, 4, none⟩ = some (.string ⟨#[]⟩) := hE.out.cell 4
                    have f1 := hE.out.frozen 4
                    have e2 : w30.cell? ⟨ge, 5, none⟩ = some (.string ⟨#[]⟩) := hE.out.cell 5
                    have f2 := hE.out.frozen 5
                    have hbut : But (fun k => k = ge) w30 (((w30.setCell ⟨ge, 3, none⟩ (.bool false)).setCell ⟨ge, 4, none⟩ (.string (natS r1.1))).setCell ⟨ge, 5, none⟩ (.string (natS r1.2))) := But.set3 w30 ge 3 4 5 _ _ _
                    have hE2 := (((hE.out.set_ 3 (.bool false)).set_ 4 (.string (natS r1.1))).set_ 5 (.string (natS r1.2)))
                    replace hE2 : Blk (((w30.setCell ⟨ge, 3, none⟩ (.bool false)).setCell ⟨ge, 4, none⟩ (.string (natS r1.1))).setCell ⟨ge, 5, none⟩ (.string (natS r1.2))) ge 40 #[.bool false, .string (natS r0.1), .string (natS r0.2), .bool false, .string (natS r1.1), .string (natS r1.2), .bool false, .string ⟨#[]⟩, .string ⟨#[]⟩, .bool false, .string ⟨#[]⟩, .string ⟨#[]⟩] := hE2
                    have hA' := Blk.but hA.out hbut (by omega)
                    have hBb' := Blk.but hBb.out hbut (by omega)
                    have hT' := Blk.but hT.out hbut (by omega)
                    have hR' := Blk.but hR.out hbut (by omega)
                    have hZ' := Blk.but hZ.out hbut (by omega)
                    have hMk' := (hbut.block D1 (Array.getElem?_eq_some_iff.1 hMk.out).1 (fun e => blk_deferred hE.out (e ▸ hMk.out))).trans hMk.out
                    have hMk2' := (hbut.block D2 (Array.getElem?_eq_some_iff.1 hMk2.out).1 (fun e => blk_deferred hE.out (e ▸ hMk2.out))).trans hMk2.out
                    have hB' := hB.out.trans (hbut.toBelow hB.out.size (fun k hk e => by subst e; omega))
                    go_wp2_with fail
                    generalize hW : (((w30.setCell ⟨ge, 3, none⟩ (.bool false)).setCell ⟨ge, 4, none⟩ (.string (natS r1.1))).setCell ⟨ge, 5, none⟩ (.string (natS r1.2))) = w31 at hE2 hB' hA' hBb' hT' hR' hZ' hMk' hMk2' ⊢
                    clear hW hbut hX z0 z1 z2 e0 e1 e2 f0 f1 f2
                    replace hA := Lib.hid hA'
                    replace hBb := Lib.hid hBb'
                    replace hT := Lib.hid hT'
                    replace hR := Lib.hid hR'
                    replace hZ := Lib.hid hZ'
                    replace hMk := Lib.hid hMk'
                    replace hMk2 := Lib.hid hMk2'
                    replace hE := Lib.hid hE2
                    replace hB := Lib.hid hB'
                    clear hE2 hB' hA' hBb' hT' hR' hZ' hMk' hMk2'
                    rw [rounds_succ]
                    obtain ⟨r2, hr2⟩ : ∃ r, r = rotP t lb.1 := ⟨_, rfl⟩
                    by_cases hd2 : r2.2 ≤ 2147483647
                    case neg =>
                      have cA0 := Lib.hid (fun W => cNo.out lb.1 W hlb.out.1.1 (by rw [← hr2]; exact hd2))
                      clear hd2 cOk cNo
                      replace hr2 := Lib.hid hr2
                      have z0 : w31.cell? ⟨gz, 6, none⟩ = some (.bool false) := hZ.out.cell 6
                      have z1 : w31.cell? ⟨gz, 7, none⟩ = some (.string (natS lb.1.1)) := hZ.out.cell 7
                      have z2 : w31.cell? ⟨gz, 8, none⟩ = some (.string (natS lb.1.2)) := hZ.out.cell 8
                      go_upto_region 33 with fail
                      have hX := Lib.hid (Blk.new w31 25 #[.bool false, .string (natS lb.1.1), .string (natS lb.1.2)])
                      clear z0 z1 z2
                      have hb : Below w31.heap.size w31 (w31.alloc (.cells #[.bool false, .string (natS lb.1.1), .string (natS lb.1.2)] 25)) := (Below.refl _ _).alloc (Nat.le_refl _) _
                      replace hB := Lib.hid (hB.out.trans (hb.mono hB.out.size))
                      replace hA := Lib.hid (Blk.below hA.out hb)
                      replace hBb := Lib.hid (Blk.below hBb.out hb)
                      replace hT := Lib.hid (Blk.below hT.out hb)
                      replace hR := Lib.hid (Blk.below hR.out hb)
                      replace hE := Lib.hid (Blk.below hE.out hb)
                      replace hZ := Lib.hid (Blk.below hZ.out hb)
                      replace hMk := Lib.hid ((hb.block D1 (Array.getElem?_eq_some_iff.1 hMk.out).1).trans hMk.out)
                      replace hMk2 := Lib.hid ((hb.block D2 (Array.getElem?_eq_some_iff.1 hMk2.out).1).trans hMk2.out)
                      clear hb
                      generalize hW : w31.alloc (.cells #[.bool false, .string (natS lb.1.1), .string (natS lb.1.2)] 25) = w32 at hB hA hBb hT hR hE hZ hMk hMk2 hX ⊢
                      generalize hgg : w31.heap.size = gx at hX ⊢
                      clear hW hgg
                      have z0 : w32.cell? ⟨gx, 0, none⟩ = some (.bool false) := hX.out.cell 0
                      have z1 : w32.cell? ⟨gx, 1, none⟩ = some (.string (natS lb.1.1)) := hX.out.cell 1
                      have z2 : w32.cell? ⟨gx, 2, none⟩ = some (.string (natS lb.1.2)) := hX.out.cell 2
                      have t0 : w32.cell? ⟨w.heap.size + 1 + 1, 0, none⟩ = some (.bool false) := hT.out.cell 0
                      have t1 : w32.cell? ⟨w.heap.size + 1 + 1, 1, none⟩ = some (.string (natS t.1)) := hT.out.cell 1
                      have t2 : w32.cell? ⟨w.heap.size + 1 + 1, 2, none⟩ = some (.string (natS t.2)) := hT.out.cell 2
                      go_wp2_with fail
                      refine (cA0.out _).mono ?_
                      rintro en w33 ⟨rfl, hb⟩
                      replace hB := Lib.hid (hB.out.trans (hb.mono hB.out.size))
                      replace hA := Lib.hid (Blk.below hA.out hb)
                      replace hBb := Lib.hid (Blk.below hBb.out hb)
                      replace hT := Lib.hid (Blk.below hT.out hb)
                      replace hR := Lib.hid (Blk.below hR.out hb)
                      replace hE := Lib.hid (Blk.below hE.out hb)
                      replace hZ := Lib.hid (Blk.below hZ.out hb)
                      replace hMk := Lib.hid ((hb.block D1 (Array.getElem?_eq_some_iff.1 hMk.out).1).trans hMk.out)
                      replace hMk2 := Lib.hid ((hb.block D2 (Array.getElem?_eq_some_iff.1 hMk2.out).1).trans hMk2.out)
                      clear hb cA0 hX z0 z1 z2 t0 t1 t2 hZ hE hA hBb
                      go_upto_region 35 with fail
                      have hb : Below w33.heap.size w33 (w33.alloc (.cells #[.bool false, .string ⟨#[]⟩, .string ⟨#[]⟩] 25)) := (Below.refl _ _).alloc (Nat.le_refl _) _
                      replace hB := Lib.hid (hB.out.trans (hb.mono hB.out.size))
                      replace hT := Lib.hid (Blk.below hT.out hb)
                      replace hR := Lib.hid (Blk.below hR.out hb)
                      replace hMk := Lib.hid ((hb.block D1 (Array.getElem?_eq_some_iff.1 hMk.out).1).trans hMk.out)
                      replace hMk2 := Lib.hid ((hb.block D2 (Array.getElem?_eq_some_iff.1 hMk2.out).1).trans hMk2.out)
                      clear hb
                      generalize hW : w33.alloc (.cells #[.bool false, .string ⟨#[]⟩, .string ⟨#[]⟩] 25) = w34 at hB hT hR hMk hMk2 ⊢
                      clear hW
                      go_wp2_with fail
                      refine (cAw.out _).mono ?_
                      rintro en w35 ⟨rfl, hb⟩
                      replace hB := Lib.hid (hB.out.trans (hb.mono hB.out.size))
                      replace hT := Lib.hid (Blk.below hT.out hb)
                      replace hR := Lib.hid (Blk.below hR.out hb)
                      replace hMk := Lib.hid ((hb.block D1 (Array.getElem?_eq_some_iff.1 hMk.out).1).trans hMk.out)
                      replace hMk2 := Lib.hid ((hb.block D2 (Array.getElem?_eq_some_iff.1 hMk2.out).1).trans hMk2.out)
                      clear hb
                      have r0 : w35.cell? ⟨w.heap.size + 1 + 1 + 1, 0, none⟩ = some (.bool false) := hR.out.cell 0
                      have r1 := hR.out.frozen 0
                      have kr2 := Lib.hid (blk_put (blk_put (hR.out.set_ 0 (.bool true)) (show w.heap.size + 1 + 1 + 1 ≠ D2 by have := hltD2.out; omega) (.deferred none)) (show w.heap.size + 1 + 1 + 1 ≠ D1 by have := hltD1.out; omega) (.deferred none))
                      have hB2 := Lib.hid (below_put (below_put (hB.out.setCell (p := ⟨w.heap.size + 1 + 1 + 1, 0, none⟩) (by simp; omega) (.bool true)) (show w.heap.size ≤ D2 by have := hltD2.out; omega) (.deferred none)) (show w.heap.size ≤ D1 by have := hltD1.out; omega) (.deferred none))
                      have hk0 := Lib.hid (put_set (p := ⟨w.heap.size + 1 + 1 + 1, 0, none⟩) hMk2.out (show D2 ≠ w.heap.size + 1 + 1 + 1 by have := hltD2.out; omega) (.bool true))
                      have hk1 := Lib.hid (put_set (p := ⟨w.heap.size + 1 + 1 + 1, 0, none⟩) hMk.out (show D1 ≠ w.heap.size + 1 + 1 + 1 by have := hltD1.out; omega) (.bool true))
                      clear hR hB hMk2 hMk
                      go_wp2_with fail
                      have q0 := kr2.out.cell 0
                      refine leaves_two hk0.out hk1.out hDD.out (v := .bool true) (by simp [results, Try.results3, go_sem, q0]) ⟨rfl, hB2.out⟩
                    case pos =>
                      have cA0 := Lib.hid (fun W => cOk.out lb.1 W hlb.out.1.1 (by rw [← hr2]; exact hd2))
                      rw [← hr2] at cA0
                      replace hd2 := Lib.hid hd2
                      replace hr2 := Lib.hid hr2
                      have z0 : w31.cell? ⟨gz, 6, none⟩ = some (.bool false) := hZ.out.cell 6
                      have z1 : w31.cell? ⟨gz, 7, none⟩ = some (.string (natS lb.1.1)) := hZ.out.cell 7
                      have z2 : w31.cell? ⟨gz, 8, none⟩ = some (.string (natS lb.1.2)) := hZ.out.cell 8
                      go_upto_region 33 with fail
                      have hX := Lib.hid (Blk.new w31 25 #[.bool false, .string (natS lb.1.1), .string (natS lb.1.2)])
                      clear z0 z1 z2
                      have hb : Below w31.heap.size w31 (w31.alloc (.cells #[.bool false, .string (natS lb.1.1), .string (natS lb.1.2)] 25)) := (Below.refl _ _).alloc (Nat.le_refl _) _
                      replace hB := Lib.hid (hB.out.trans (hb.mono hB.out.size))
                      replace hA := Lib.hid (Blk.below hA.out hb)
                      replace hBb := Lib.hid (Blk.below hBb.out hb)
                      replace hT := Lib.hid (Blk.below hT.out hb)
                      replace hR := Lib.hid (Blk.below hR.out hb)
                      replace hE := Lib.hid (Blk.below hE.out hb)
                      replace hZ := Lib.hid (Blk.below hZ.out hb)
                      replace hMk := Lib.hid ((hb.block D1 (Array.getElem?_eq_some_iff.1 hMk.out).1).trans hMk.out)
                      replace hMk2 := Lib.hid ((hb.block D2 (Array.getElem?_eq_some_iff.1 hMk2.out).1).trans hMk2.out)
                      clear hb
                      generalize hW : w31.alloc (.cells #[.bool false, .string (natS lb.1.1), .string (natS lb.1.2)] 25) = w32 at hB hA hBb hT hR hE hZ hMk hMk2 hX ⊢
                      generalize hgg : w31.heap.size = gx at hX ⊢
                      clear hW hgg
                      have z0 : w32.cell? ⟨gx, 0, none⟩ = some (.bool false) := hX.out.cell 0
                      have z1 : w32.cell? ⟨gx, 1, none⟩ = some (.string (natS lb.1.1)) := hX.out.cell 1
                      have z2 : w32.cell? ⟨gx, 2, none⟩ = some (.string (natS lb.1.2)) := hX.out.cell 2
                      have t0 : w32.cell? ⟨w.heap.size + 1 + 1, 0, none⟩ = some (.bool false) := hT.out.cell 0
                      have t1 : w32.cell? ⟨w.heap.size + 1 + 1, 1, none⟩ = some (.string (natS t.1)) := hT.out.cell 1
                      have t2 : w32.cell? ⟨w.heap.size + 1 + 1, 2, none⟩ = some (.string (natS t.2)) := hT.out.cell 2
                      go_wp2_with fail
                      refine (cA0.out _).mono ?_
                      rintro en w33 ⟨rfl, hb⟩
                      replace hB := Lib.hid (hB.out.trans (hb.mono hB.out.size))
                      replace hA := Lib.hid (Blk.below hA.out hb)
                      replace hBb := Lib.hid (Blk.below hBb.out hb)
                      replace hT := Lib.hid (Blk.below hT.out hb)
                      replace hR := Lib.hid (Blk.below hR.out hb)
                      replace hE := Lib.hid (Blk.below hE.out hb)
                      replace hZ := Lib.hid (Blk.below hZ.out hb)
                      replace hMk := Lib.hid ((hb.block D1 (Array.getElem?_eq_some_iff.1 hMk.out).1).trans hMk.out)
                      replace hMk2 := Lib.hid ((hb.block D2 (Array.getElem?_eq_some_iff.1 hMk2.out).1).trans hMk2.out)
                      clear hb cA0 hX z0 z1 z2 t0 t1 t2
                      go_upto_region 36 with fail
                      have hX := Lib.hid (Blk.new w33 25 #[.bool false, .string (natS r2.1), .string (natS r2.2)])
                      have hb : Below w33.heap.size w33 (w33.alloc (.cells #[.bool false, .string (natS r2.1), .string (natS r2.2)] 25)) := (Below.refl _ _).alloc (Nat.le_refl _) _
                      replace hB := Lib.hid (hB.out.trans (hb.mono hB.out.size))
                      replace hA := Lib.hid (Blk.below hA.out hb)
                      replace hBb := Lib.hid (Blk.below hBb.out hb)
                      replace hT := Lib.hid (Blk.below hT.out hb)
                      replace hR := Lib.hid (Blk.below hR.out hb)
                      replace hE := Lib.hid (Blk.below hE.out hb)
                      replace hZ := Lib.hid (Blk.below hZ.out hb)
                      replace hMk := Lib.hid ((hb.block D1 (Array.getElem?_eq_some_iff.1 hMk.out).1).trans hMk.out)
                      replace hMk2 := Lib.hid ((hb.block D2 (Array.getElem?_eq_some_iff.1 hMk2.out).1).trans hMk2.out)
                      clear hb
                      generalize hW : w33.alloc (.cells #[.bool false, .string (natS r2.1), .string (natS r2.2)] 25) = w34 at hB hA hBb hT hR hE hZ hMk hMk2 hX ⊢
                      generalize hgg : w33.heap.size = gx at hX ⊢
                      clear hW hgg
                      have z0 : w34.cell? ⟨gx, 0, none⟩ = some (.bool false) := hX.out.cell 0
                      have z1 : w34.cell? ⟨gx, 1, none⟩ = some (.string (natS r2.1)) := hX.out.cell 1
                      have z2 : w34.cell? ⟨gx, 2, none⟩ = some (.string (natS r2.2)) := hX.out.cell 2
                      have e0 : w34.cell? ⟨ge, 6, none⟩ = some (.bool false) := hE.out.cell 6
                      have f0 := hE.out.frozen 6
                      have e1 : w34.cell? ⟨ge, 7, none⟩ = some (.string ⟨#[]⟩) := hE.out.cell 7
                      have f1 := hE.out.frozen 7
                      have e2 : w34.cell? ⟨ge, 8, none⟩ = some (.string ⟨#[]⟩) := hE.out.cell 8
                      have f2 := hE.out.frozen 8
                      have hbut : But (fun k => k = ge) w34 (((w34.setCell ⟨ge, 6, none⟩ (.bool false)).setCell ⟨ge, 7, none⟩ (.string (natS r2.1))).setCell ⟨ge, 8, none⟩ (.string (natS r2.2))) := But.set3 w34 ge 6 7 8 _ _ _
                      have hE2 := (((hE.out.set_ 6 (.bool false)).set_ 7 (.string (natS r2.1))).set_ 8 (.string (natS r2.2)))
                      replace hE2 : Blk (((w34.setCell ⟨ge, 6, none⟩ (.bool false)).setCell ⟨ge, 7, none⟩ (.string (natS r2.1))).setCell ⟨ge, 8, none⟩ (.string (natS r2.2))) ge 40 #[.bool false, .string (natS r0.1), .string (natS r0.2), .bool false, .string (natS r1.1), .string (natS r1.2), .bool false, .string (natS r2.1), .string (natS r2.2), .bool false, .string ⟨#[]⟩, .string ⟨#[]⟩] := hE2
                      have hA' := Blk.but hA.out hbut (by omega)
                      have hBb' := Blk.but hBb.out hbut (by omega)
                      have hT' := Blk.but hT.out hbut (by omega)
                      have hR' := Blk.but hR.out hbut (by omega)
                      have hZ' := Blk.but hZ.out hbut (by omega)
                      have hMk' := (hbut.block D1 (Array.getElem?_eq_some_iff.1 hMk.out).1 (fun e => blk_deferred hE.out (e ▸ hMk.out))).trans hMk.out
                      have hMk2' := (hbut.block D2 (Array.getElem?_eq_some_iff.1 hMk2.out).1 (fun e => blk_deferred hE.out (e ▸ hMk2.out))).trans hMk2.out
                      have hB' := hB.out.trans (hbut.toBelow hB.out.size (fun k hk e => by subst e; omega))
                      go_wp2_with fail
                      generalize hW : (((w34.setCell ⟨ge, 6, none⟩ (.bool false)).setCell ⟨ge, 7, none⟩ (.string (natS r2.1))).setCell ⟨ge, 8, none⟩ (.string (natS r2.2))) = w35 at hE2 hB' hA' hBb' hT' hR' hZ' hMk' hMk2' ⊢
                      clear hW hbut hX z0 z1 z2 e0 e1 e2 f0 f1 f2
                      replace hA := Lib.hid hA'
                      replace hBb := Lib.hid hBb'
                      replace hT := Lib.hid hT'
                      replace hR := Lib.hid hR'
                      replace hZ := Lib.hid hZ'
                      replace hMk := Lib.hid hMk'
                      replace hMk2 := Lib.hid hMk2'
                      replace hE := Lib.hid hE2
                      replace hB := Lib.hid hB'
                      clear hE2 hB' hA' hBb' hT' hR' hZ' hMk' hMk2'
                      rw [rounds_succ]
                      obtain ⟨r3, hr3⟩ : ∃ r, r = rotP t lb.2 := ⟨_, rfl⟩
                      by_cases hd3 : r3.2 ≤ 2147483647
                      case neg =>
                        have cA0 := Lib.hid (fun W => cNo.out lb.2 W hlb.out.1.2 (by rw [← hr3]; exact hd3))
                        clear hd3 cOk cNo
                        replace hr3 := Lib.hid hr3
                        have z0 : w35.cell? ⟨gz, 9, none⟩ = some (.bool false) := hZ.out.cell 9
                        have z1 : w35.cell? ⟨gz, 10, none⟩ = some (.string (natS lb.2.1)) := hZ.out.cell 10
                        have z2 : w35.cell? ⟨gz, 11, none⟩ = some (.string (natS lb.2.2)) := hZ.out.cell 11
                        go_upto_region 33 with fail
                        have hX := Lib.hid (Blk.new w35 25 #[.bool false, .string (natS lb.2.1), .string (natS lb.2.2)])
                        clear z0 z1 z2
                        have hb : Below w35.heap.size w35 (w35.alloc (.cells #[.bool false, .string (natS lb.2.1), .string (natS lb.2.2)] 25)) := (Below.refl _ _).alloc (Nat.le_refl _) _
                        replace hB := Lib.hid (hB.out.trans (hb.mono hB.out.size))
                        replace hA := Lib.hid (Blk.below hA.out hb)
                        replace hBb := Lib.hid (Blk.below hBb.out hb)
                        replace hT := Lib.hid (Blk.below hT.out hb)
                        replace hR := Lib.hid (Blk.below hR.out hb)
                        replace hE := Lib.hid (Blk.below hE.out hb)
                        replace hZ := Lib.hid (Blk.below hZ.out hb)
                        replace hMk := Lib.hid ((hb.block D1 (Array.getElem?_eq_some_iff.1 hMk.out).1).trans hMk.out)
                        replace hMk2 := Lib.hid ((hb.block D2 (Array.getElem?_eq_some_iff.1 hMk2.out).1).trans hMk2.out)
                        clear hb
                        generalize hW : w35.alloc (.cells #[.bool false, .string (natS lb.2.1), .string (natS lb.2.2)] 25) = w36 at hB hA hBb hT hR hE hZ hMk hMk2 hX ⊢
                        generalize hgg : w35.heap.size = gx at hX ⊢
                        clear hW hgg
                        have z0 : w36.cell? ⟨gx, 0, none⟩ = some (.bool false) := hX.out.cell 0
                        have z1 : w36.cell? ⟨gx, 1, none⟩ = some (.string (natS lb.2.1)) := hX.out.cell 1
                        have z2 : w36.cell? ⟨gx, 2, none⟩ = some (.string (natS lb.2.2)) := hX.out.cell 2
                        have t0 : w36.cell? ⟨w.heap.size + 1 + 1, 0, none⟩ = some (.bool false) := hT.out.cell 0
                        have t1 : w36.cell? ⟨w.heap.size + 1 + 1, 1, none⟩ = some (.string (natS t.1)) := hT.out.cell 1
                        have t2 : w36.cell? ⟨w.heap.size + 1 + 1, 2, none⟩ = some (.string (natS t.2)) := hT.out.cell 2
                        go_wp2_with fail
                        refine (cA0.out _).mono ?_
                        rintro en w37 ⟨rfl, hb⟩
                        replace hB := Lib.hid (hB.out.trans (hb.mono hB.out.size))
                        replace hA := Lib.hid (Blk.below hA.out hb)
                        replace hBb := Lib.hid (Blk.below hBb.out hb)
                        replace hT := Lib.hid (Blk.below hT.out hb)
                        replace hR := Lib.hid (Blk.below hR.out hb)
                        replace hE := Lib.hid (Blk.below hE.out hb)
                        replace hZ := Lib.hid (Blk.below hZ.out hb)
                        replace hMk := Lib.hid ((hb.block D1 (Array.getElem?_eq_some_iff.1 hMk.out).1).trans hMk.out)
                        replace hMk2 := Lib.hid ((hb.block D2 (Array.getElem?_eq_some_iff.1 hMk2.out).1).trans hMk2.out)
                        clear hb cA0 hX z0 z1 z2 t0 t1 t2 hZ hE hA hBb
                        go_upto_region 35 with fail
                        have hb : Below w37.heap.size w37 (w37.alloc (.cells #[.bool false, .string ⟨#[]⟩, .string ⟨#[]⟩] 25)) := (Below.refl _ _).alloc (Nat.le_refl _) _
                        replace hB := Lib.hid (hB.out.trans (hb.mono hB.out.size))
                        replace hT := Lib.hid (Blk.below hT.out hb)
                        replace hR := Lib.hid (Blk.below hR.out hb)
                        replace hMk := Lib.hid ((hb.block D1 (Array.getElem?_eq_some_iff.1 hMk.out).1).trans hMk.out)
                        replace hMk2 := Lib.hid ((hb.block D2 (Array.getElem?_eq_some_iff.1 hMk2.out).1).trans hMk2.out)
                        clear hb
                        generalize hW : w37.alloc (.cells #[.bool false, .string ⟨#[]⟩, .string ⟨#[]⟩] 25) = w38 at hB hT hR hMk hMk2 ⊢
                        clear hW
                        go_wp2_with fail
                        refine (cAw.out _).mono ?_
                        rintro en w39 ⟨rfl, hb⟩
                        replace hB := Lib.hid (hB.out.trans (hb.mono hB.out.size))
                        replace hT := Lib.hid (Blk.below hT.out hb)
                        replace hR := Lib.hid (Blk.below hR.out hb)
                        replace hMk := Lib.hid ((hb.block D1 (Array.getElem?_eq_some_iff.1 hMk.out).1).trans hMk.out)
                        replace hMk2 := Lib.hid ((hb.block D2 (Array.getElem?_eq_some_iff.1 hMk2.out).1).trans hMk2.out)
                        clear hb
                        have r0 : w39.cell? ⟨w.heap.size + 1 + 1 + 1, 0, none⟩ = some (.bool false) := hR.out.cell 0
                        have r1 := hR.out.frozen 0
                        have kr2 := Lib.hid (blk_put (blk_put (hR.out.set_ 0 (.bool true)) (show w.heap.size + 1 + 1 + 1 ≠ D2 by have := hltD2.out; omega) (.deferred none)) (show w.heap.size + 1 + 1 + 1 ≠ D1 by have := hltD1.out; omega) (.deferred none))
                        have hB2 := Lib.hid (below_put (below_put (hB.out.setCell (p := ⟨w.heap.size + 1 + 1 + 1, 0, none⟩) (by simp; omega) (.bool true)) (show w.heap.size ≤ D2 by have := hltD2.out; omega) (.deferred none)) (show w.heap.size ≤ D1 by have := hltD1.out; omega) (.deferred none))
                        have hk0 := Lib.hid (put_set (p := ⟨w.heap.size + 1 + 1 + 1, 0, none⟩) hMk2.out (show D2 ≠ w.heap.size + 1 + 1 + 1 by have := hltD2.out; omega) (.bool true))
                        have hk1 := Lib.hid (put_set (p := ⟨w.heap.size + 1 + 1 + 1, 0, none⟩) hMk.out (show D1 ≠ w.heap.size + 1 + 1 + 1 by have := hltD1.out; omega) (.bool true))
                        clear hR hB hMk2 hMk
                        go_wp2_with fail
                        have q0 := kr2.out.cell 0
                        refine leaves_two hk0.out hk1.out hDD.out (v := .bool true) (by simp [results, Try.results3, go_sem, q0]) ⟨rfl, hB2.out⟩
                      case pos =>
                        have cA0 := Lib.hid (fun W => cOk.out lb.2 W hlb.out.1.2 (by rw [← hr3]; exact hd3))
                        rw [← hr3] at cA0
                        replace hd3 := Lib.hid hd3
                        replace hr3 := Lib.hid hr3
                        have z0 : w35.cell? ⟨gz, 9, none⟩ = some (.bool false) := hZ.out.cell 9
                        have z1 : w35.cell? ⟨gz, 10, none⟩ = some (.string (natS lb.2.1)) := hZ.out.cell 10
                        have z2 : w35.cell? ⟨gz, 11, none⟩ = some (.string (natS lb.2.2)) := hZ.out.cell 11
                        go_upto_region 33 with fail
                        have hX := Lib.hid (Blk.new w35 25 #[.bool false, .string (natS lb.2.1), .string (natS lb.2.2)])
                        clear z0 z1 z2
                        have hb : Below w35.heap.size w35 (w35.alloc (.cells #[.bool false, .string (natS lb.2.1), .string (natS lb.2.2)] 25)) := (Below.refl _ _).alloc (Nat.le_refl _) _
                        replace hB := Lib.hid (hB.out.trans (hb.mono hB.out.size))
                        replace hA := Lib.hid (Blk.below hA.out hb)
                        replace hBb := Lib.hid (Blk.below hBb.out hb)
                        replace hT := Lib.hid (Blk.below hT.out hb)
                        replace hR := Lib.hid (Blk.below hR.out hb)
                        replace hE := Lib.hid (Blk.below hE.out hb)
                        replace hZ := Lib.hid (Blk.below hZ.out hb)
                        replace hMk := Lib.hid ((hb.block D1 (Array.getElem?_eq_some_iff.1 hMk.out).1).trans hMk.out)
                        replace hMk2 := Lib.hid ((hb.block D2 (Array.getElem?_eq_some_iff.1 hMk2.out).1).trans hMk2.out)
                        clear hb
                        generalize hW : w35.alloc (.cells #[.bool false, .string (natS lb.2.1), .string (natS lb.2.2)] 25) = w36 at hB hA hBb hT hR hE hZ hMk hMk2 hX ⊢
                        generalize hgg : w35.heap.size = gx at hX ⊢
                        clear hW hgg
                        have z0 : w36.cell? ⟨gx, 0, none⟩ = some (.bool false) := hX.out.cell 0
                        have z1 : w36.cell? ⟨gx, 1, none⟩ = some (.string (natS lb.2.1)) := hX.out.cell 1
                        have z2 : w36.cell? ⟨gx, 2, none⟩ = some (.string (natS lb.2.2)) := hX.out.cell 2
                        have t0 : w36.cell? ⟨w.heap.size + 1 + 1, 0, none⟩ = some (.bool false) := hT.out.cell 0
                        have t1 : w36.cell? ⟨w.heap.size + 1 + 1, 1, none⟩ = some (.string (natS t.1)) := hT.out.cell 1
                        have t2 : w36.cell? ⟨w.heap.size + 1 + 1, 2, none⟩ = some (.string (natS t.2)) := hT.out.cell 2
                        go_wp2_with fail
                        refine (cA0.out _).mono ?_
                        rintro en w37 ⟨rfl, hb⟩
                        replace hB := Lib.hid (hB.out.trans (hb.mono hB.out.size))
                        replace hA := Lib.hid (Blk.below hA.out hb)
                        replace hBb := Lib.hid (Blk.below hBb.out hb)
                        replace hT := Lib.hid (Blk.below hT.out hb)
                        replace hR := Lib.hid (Blk.below hR.out hb)
                        replace hE := Lib.hid (Blk.below hE.out hb)
                        replace hZ := Lib.hid (Blk.below hZ.out hb)
                        replace hMk := Lib.hid ((hb.block D1 (Array.getElem?_eq_some_iff.1 hMk.out).1).trans hMk.out)
                        replace hMk2 := Lib.hid ((hb.block D2 (Array.getElem?_eq_some_iff.1 hMk2.out).1).trans hMk2.out)
                        clear hb cA0 hX z0 z1 z2 t0 t1 t2
                        go_upto_region 36 with fail
                        have hX := Lib.hid (Blk.new w37 25 #[.bool false, .string (natS r3.1), .string (natS r3.2)])
                        have hb : Below w37.heap.size w37 (w37.alloc (.cells #[.bool false, .string (natS r3.1), .string (natS r3.2)] 25)) := (Below.refl _ _).alloc (Nat.le_refl _) _
                        replace hB := Lib.hid (hB.out.trans (hb.mono hB.out.size))
                        replace hA := Lib.hid (Blk.below hA.out hb)
                        replace hBb := Lib.hid (Blk.below hBb.out hb)
                        replace hT := Lib.hid (Blk.below hT.out hb)
                        replace hR := Lib.hid (Blk.below hR.out hb)
                        replace hE := Lib.hid (Blk.below hE.out hb)
                        replace hZ := Lib.hid (Blk.below hZ.out hb)
                        replace hMk := Lib.hid ((hb.block D1 (Array.getElem?_eq_some_iff.1 hMk.out).1).trans hMk.out)
                        replace hMk2 := Lib.hid ((hb.block D2 (Array.getElem?_eq_some_iff.1 hMk2.out).1).trans hMk2.out)
                        clear hb
                        generalize hW : w37.alloc (.cells #[.bool false, .string (natS r3.1), .string (natS r3.2)] 25) = w38 at hB hA hBb hT hR hE hZ hMk hMk2 hX ⊢
                        generalize hgg : w37.heap.size = gx at hX ⊢
                        clear hW hgg
                        have z0 : w38.cell? ⟨gx, 0, none⟩ = some (.bool false) := hX.out.cell 0
                        have z1 : w38.cell? ⟨gx, 1, none⟩ = some (.string (natS r3.1)) := hX.out.cell 1
                        have z2 : w38.cell? ⟨gx, 2, none⟩ = some (.string (natS r3.2)) := hX.out.cell 2
                        have e0 : w38.cell? ⟨ge, 9, none⟩ = some (.bool false) := hE.out.cell 9
                        have f0 := hE.out.frozen 9
                        have e1 : w38.cell? ⟨ge, 10, none⟩ = some (.string ⟨#[]⟩) := hE.out.cell 10
                        have f1 := hE.out.frozen 10
                        have e2 : w38.cell? ⟨ge, 11, none⟩ = some (.string ⟨#[]⟩) := hE.out.cell 11
                        have f2 := hE.out.frozen 11
                        have hbut : But (fun k => k = ge) w38 (((w38.setCell ⟨ge, 9, none⟩ (.bool false)).setCell ⟨ge, 10, none⟩ (.string (natS r3.1))).setCell ⟨ge, 11, none⟩ (.string (natS r3.2))) := But.set3 w38 ge 9 10 11 _ _ _
                        have hE2 := (((hE.out.set_ 9 (.bool false)).set_ 10 (.string (natS r3.1))).set_ 11 (.string (natS r3.2)))
                        replace hE2 : Blk (((w38.setCell ⟨ge, 9, none⟩ (.bool false)).setCell ⟨ge, 10, none⟩ (.string (natS r3.1))).setCell ⟨ge, 11, none⟩ (.string (natS r3.2))) ge 40 #[.bool false, .string (natS r0.1), .string (natS r0.2), .bool false, .string (natS r1.1), .string (natS r1.2), .bool false, .string (natS r2.1), .string (natS r2.2), .bool false, .string (natS r3.1), .string (natS r3.2)] := hE2
                        have hA' := Blk.but hA.out hbut (by omega)
                        have hBb' := Blk.but hBb.out hbut (by omega)
                        have hT' := Blk.but hT.out hbut (by omega)
                        have hR' := Blk.but hR.out hbut (by omega)
                        have hZ' := Blk.but hZ.out hbut (by omega)
                        have hMk' := (hbut.block D1 (Array.getElem?_eq_some_iff.1 hMk.out).1 (fun e => blk_deferred hE.out (e ▸ hMk.out))).trans hMk.out
                        have hMk2' := (hbut.block D2 (Array.getElem?_eq_some_iff.1 hMk2.out).1 (fun e => blk_deferred hE.out (e ▸ hMk2.out))).trans hMk2.out
                        have hB' := hB.out.trans (hbut.toBelow hB.out.size (fun k hk e => by subst e; omega))
                        go_wp2_with fail
                        generalize hW : (((w38.setCell ⟨ge, 9, none⟩ (.bool false)).setCell ⟨ge, 10, none⟩ (.string (natS r3.1))).setCell ⟨ge, 11, none⟩ (.string (natS r3.2))) = w39 at hE2 hB' hA' hBb' hT' hR' hZ' hMk' hMk2' ⊢
                        clear hW hbut hX z0 z1 z2 e0 e1 e2 f0 f1 f2
                        replace hA := Lib.hid hA'
                        replace hBb := Lib.hid hBb'
                        replace hT := Lib.hid hT'
                        replace hR := Lib.hid hR'
                        replace hZ := Lib.hid hZ'
                        replace hMk := Lib.hid hMk'
                        replace hMk2 := Lib.hid hMk2'
                        replace hE := Lib.hid hE2
                        replace hB := Lib.hid hB'
                        clear hE2 hB' hA' hBb' hT' hR' hZ' hMk' hMk2'
                        rw [rounds_succ]
                        have A0 := rotP_ang hla.out.1.1 htA (by rw [← hr0.out]; exact hd0.out)
                        have A1 := rotP_ang hla.out.1.2 htA (by rw [← hr1.out]; exact hd1.out)
                        have A2 := rotP_ang hlb.out.1.1 htA (by rw [← hr2.out]; exact hd2.out)
                        have A3 := rotP_ang hlb.out.1.2 htA (by rw [← hr3.out]; exact hd3.out)
                        obtain ⟨n01, n23, hX⟩ := cross_rot hla.out hlb.out htA (by rw [← hr0.out]; exact hd0.out) (by rw [← hr1.out]; exact hd1.out) (by rw [← hr2.out]; exact hd2.out) (by rw [← hr3.out]; exact hd3.out)
                        rw [← hr0.out] at A0 n01 hX
                        rw [← hr1.out] at A1 n01 hX
                        rw [← hr2.out] at A2 n23 hX
                        rw [← hr3.out] at A3 n23 hX
                        rw [← hbc.out] at hX
                        have lx := mkL_lfp A0 A1 n01
                        have ly := mkL_lfp A2 A3 n23
                        obtain ⟨lp, hlp⟩ : ∃ l, l = mkL r0 r1 := ⟨_, rfl⟩
                        obtain ⟨lq, hlq⟩ : ∃ l, l = mkL r2 r3 := ⟨_, rfl⟩
                        have cM1 : Hid (∀ W, Calls Try.prog 12 #[.agg #[.bool false, .string (natS r0.1), .string (natS r0.2)], .agg #[.bool false, .string (natS r1.1), .string (natS r1.2)]] W (RetVal (.tuple #[.agg #[.bool false, .string (natS lp.1.1), .string (natS lp.1.2), .bool false, .string (natS lp.2.1), .string (natS lp.2.2)], .int .i64 0]) W)) := Lib.hid (fun W => by rw [hlp]; exact lMake_ang A0 A1 n01 W)
                        have cM2 : Hid (∀ W, Calls Try.prog 12 #[.agg #[.bool false, .string (natS r2.1), .string (natS r2.2)], .agg #[.bool false, .string (natS r3.1), .string (natS r3.2)]] W (RetVal (.tuple #[.agg #[.bool false, .string (natS lq.1.1), .string (natS lq.1.2), .bool false, .string (natS lq.2.1), .string (natS lq.2.2)], .int .i64 0]) W)) := Lib.hid (fun W => by rw [hlq]; exact lMake_ang A2 A3 n23 W)
                        have cXX : Hid (∀ W, Calls Try.prog 10 #[.agg #[.bool false, .string (natS lp.1.1), .string (natS lp.1.2), .bool false, .string (natS lp.2.1), .string (natS lp.2.2)], .agg #[.bool false, .string (natS lq.1.1), .string (natS lq.1.2), .bool false, .string (natS lq.2.1), .string (natS lq.2.2)]] W (RetVal (.tuple #[.bool bc, .int .i64 0]) W)) := Lib.hid (fun W => by rw [← hX, hlp, hlq]; exact lCross_lfp lx ly W)
                        clear A0 A1 A2 A3 n01 n23 hX lx ly hlp hlq hr0 hr1 hr2 hr3 hd0 hd1 hd2 hd3 hla hlb htA hbc cOk cNo hZ hT hA hBb hgez
                        have e0 : w39.cell? ⟨ge, 0, none⟩ = some (.bool false) := hE.out.cell 0
                        have e1 : w39.cell? ⟨ge, 1, none⟩ = some (.string (natS r0.1)) := hE.out.cell 1
                        have e2 : w39.cell? ⟨ge, 2, none⟩ = some (.string (natS r0.2)) := hE.out.cell 2
                        have e3 : w39.cell? ⟨ge, 3, none⟩ = some (.bool false) := hE.out.cell 3
                        have e4 : w39.cell? ⟨ge, 4, none⟩ = some (.string (natS r1.1)) := hE.out.cell 4
                        have e5 : w39.cell? ⟨ge, 5, none⟩ = some (.string (natS r1.2)) := hE.out.cell 5
                        go_wp2_with fail
                        refine (cM1.out _).mono ?_
                        rintro en w40 ⟨rfl, hb⟩
                        replace hB := Lib.hid (hB.out.trans (hb.mono hB.out.size))
                        replace hR := Lib.hid (Blk.below hR.out hb)
                        replace hE := Lib.hid (Blk.below hE.out hb)
                        replace hMk := Lib.hid ((hb.block D1 (Array.getElem?_eq_some_iff.1 hMk.out).1).trans hMk.out)
                        replace hMk2 := Lib.hid ((hb.block D2 (Array.getElem?_eq_some_iff.1 hMk2.out).1).trans hMk2.out)
                        clear hb cM1 e0 e1 e2 e3 e4 e5
                        go_upto_region 39 with fail
                        have hP := Lib.hid (Blk.new w40 27 #[.bool false, .string (natS lp.1.1), .string (natS lp.1.2), .bool false, .string (natS lp.2.1), .string (natS lp.2.2)])
                        have hb : Below w40.heap.size w40 (w40.alloc (.cells #[.bool false, .string (natS lp.1.1), .string (natS lp.1.2), .bool false, .string (natS lp.2.1), .string (natS lp.2.2)] 27)) := (Below.refl _ _).alloc (Nat.le_refl _) _
                        replace hB := Lib.hid (hB.out.trans (hb.mono hB.out.size))
                        replace hR := Lib.hid (Blk.below hR.out hb)
                        replace hE := Lib.hid (Blk.below hE.out hb)
                        replace hMk := Lib.hid ((hb.block D1 (Array.getElem?_eq_some_iff.1 hMk.out).1).trans hMk.out)
                        replace hMk2 := Lib.hid ((hb.block D2 (Array.getElem?_eq_some_iff.1 hMk2.out).1).trans hMk2.out)
                        clear hb
                        generalize hW : w40.alloc (.cells #[.bool false, .string (natS lp.1.1), .string (natS lp.1.2), .bool false, .string (natS lp.2.1), .string (natS lp.2.2)] 27) = w41 at hB hR hE hMk hMk2 hP ⊢
                        generalize hgg : w40.heap.size = gp at hP ⊢
                        clear hW hgg
                        have e0 : w41.cell? ⟨ge, 6, none⟩ = some (.bool false) := hE.out.cell 6
                        have e1 : w41.cell? ⟨ge, 7, none⟩ = some (.string (natS r2.1)) := hE.out.cell 7
                        have e2 : w41.cell? ⟨ge, 8, none⟩ = some (.string (natS r2.2)) := hE.out.cell 8
                        have e3 : w41.cell? ⟨ge, 9, none⟩ = some (.bool false) := hE.out.cell 9
                        have e4 : w41.cell? ⟨ge, 10, none⟩ = some (.string (natS r3.1)) := hE.out.cell 10
                        have e5 : w41.cell? ⟨ge, 11, none⟩ = some (.string (natS r3.2)) := hE.out.cell 11
                        go_wp2_with fail
                        refine (cM2.out _).mono ?_
                        rintro en w42 ⟨rfl, hb⟩
                        replace hB := Lib.hid (hB.out.trans (hb.mono hB.out.size))
                        replace hR := Lib.hid (Blk.below hR.out hb)
                        replace hE := Lib.hid (Blk.below hE.out hb)
                        replace hP := Lib.hid (Blk.below hP.out hb)
                        replace hMk := Lib.hid ((hb.block D1 (Array.getElem?_eq_some_iff.1 hMk.out).1).trans hMk.out)
                        replace hMk2 := Lib.hid ((hb.block D2 (Array.getElem?_eq_some_iff.1 hMk2.out).1).trans hMk2.out)
                        clear hb cM2 e0 e1 e2 e3 e4 e5 hE
                        go_upto_region 40 with fail
                        have hQ := Lib.hid (Blk.new w42 27 #[.bool false, .string (natS lq.1.1), .string (natS lq.1.2), .bool false, .string (natS lq.2.1), .string (natS lq.2.2)])
                        have hb : Below w42.heap.size w42 (w42.alloc (.cells #[.bool false, .string (natS lq.1.1), .string (natS lq.1.2), .bool false, .string (natS lq.2.1), .string (natS lq.2.2)] 27)) := (Below.refl _ _).alloc (Nat.le_refl _) _
                        replace hB := Lib.hid (hB.out.trans (hb.mono hB.out.size))
                        replace hR := Lib.hid (Blk.below hR.out hb)
                        replace hP := Lib.hid (Blk.below hP.out hb)
                        replace hMk := Lib.hid ((hb.block D1 (Array.getElem?_eq_some_iff.1 hMk.out).1).trans hMk.out)
                        replace hMk2 := Lib.hid ((hb.block D2 (Array.getElem?_eq_some_iff.1 hMk2.out).1).trans hMk2.out)
                        clear hb
                        generalize hW : w42.alloc (.cells #[.bool false, .string (natS lq.1.1), .string (natS lq.1.2), .bool false, .string (natS lq.2.1), .string (natS lq.2.2)] 27) = w43 at hB hR hP hMk hMk2 hQ ⊢
                        generalize hgg : w42.heap.size = gqq at hQ ⊢
                        clear hW hgg
                        have p0 : w43.cell? ⟨gp, 0, none⟩ = some (.bool false) := hP.out.cell 0
                        have p1 : w43.cell? ⟨gp, 1, none⟩ = some (.string (natS lp.1.1)) := hP.out.cell 1
                        have p2 : w43.cell? ⟨gp, 2, none⟩ = some (.string (natS lp.1.2)) := hP.out.cell 2
                        have p3 : w43.cell? ⟨gp, 3, none⟩ = some (.bool false) := hP.out.cell 3
                        have p4 : w43.cell? ⟨gp, 4, none⟩ = some (.string (natS lp.2.1)) := hP.out.cell 4
                        have p5 : w43.cell? ⟨gp, 5, none⟩ = some (.string (natS lp.2.2)) := hP.out.cell 5
                        have q0 : w43.cell? ⟨gqq, 0, none⟩ = some (.bool false) := hQ.out.cell 0
                        have q1 : w43.cell? ⟨gqq, 1, none⟩ = some (.string (natS lq.1.1)) := hQ.out.cell 1
                        have q2 : w43.cell? ⟨gqq, 2, none⟩ = some (.string (natS lq.1.2)) := hQ.out.cell 2
                        have q3 : w43.cell? ⟨gqq, 3, none⟩ = some (.bool false) := hQ.out.cell 3
                        have q4 : w43.cell? ⟨gqq, 4, none⟩ = some (.string (natS lq.2.1)) := hQ.out.cell 4
                        have q5 : w43.cell? ⟨gqq, 5, none⟩ = some (.string (natS lq.2.2)) := hQ.out.cell 5
                        go_wp2_with fail
                        refine (cXX.out _).mono ?_
                        rintro en w44 ⟨rfl, hb⟩
                        replace hB := Lib.hid (hB.out.trans (hb.mono hB.out.size))
                        replace hR := Lib.hid (Blk.below hR.out hb)
                        replace hP := Lib.hid (Blk.below hP.out hb)
                        replace hQ := Lib.hid (Blk.below hQ.out hb)
                        replace hMk := Lib.hid ((hb.block D1 (Array.getElem?_eq_some_iff.1 hMk.out).1).trans hMk.out)
                        replace hMk2 := Lib.hid ((hb.block D2 (Array.getElem?_eq_some_iff.1 hMk2.out).1).trans hMk2.out)
                        clear hb cXX hP hQ p0 q0 p1 q1 p2 q2 p3 q3 p4 q4 p5 q5
                        cases bc
                        all_goals
                          go_wp2_with fail
                          refine (cAw.out _).mono ?_
                          rintro en w45 ⟨rfl, hb⟩
                          replace hB := Lib.hid (hB.out.trans (hb.mono hB.out.size))
                          replace hR := Lib.hid (Blk.below hR.out hb)
                          replace hMk := Lib.hid ((hb.block D1 (Array.getElem?_eq_some_iff.1 hMk.out).1).trans hMk.out)
                          replace hMk2 := Lib.hid ((hb.block D2 (Array.getElem?_eq_some_iff.1 hMk2.out).1).trans hMk2.out)
                          clear hb
                          have r0 : w45.cell? ⟨w.heap.size + 1 + 1 + 1, 0, none⟩ = some (.bool false) := hR.out.cell 0
                          have r1 := hR.out.frozen 0
                          have kr2 := Lib.hid (blk_put (blk_put (hR.out.set_ 0 (.bool true)) (show w.heap.size + 1 + 1 + 1 ≠ D2 by have := hltD2.out; omega) (.deferred none)) (show w.heap.size + 1 + 1 + 1 ≠ D1 by have := hltD1.out; omega) (.deferred none))
                          have hB2 := Lib.hid (below_put (below_put (hB.out.setCell (p := ⟨w.heap.size + 1 + 1 + 1, 0, none⟩) (by simp; omega) (.bool true)) (show w.heap.size ≤ D2 by have := hltD2.out; omega) (.deferred none)) (show w.heap.size ≤ D1 by have := hltD1.out; omega) (.deferred none))
                          have hk0 := Lib.hid (put_set (p := ⟨w.heap.size + 1 + 1 + 1, 0, none⟩) hMk2.out (show D2 ≠ w.heap.size + 1 + 1 + 1 by have := hltD2.out; omega) (.bool true))
                          have hk1 := Lib.hid (put_set (p := ⟨w.heap.size + 1 + 1 + 1, 0, none⟩) hMk.out (show D1 ≠ w.heap.size + 1 + 1 + 1 by have := hltD1.out; omega) (.bool true))
                          clear hR hB hMk2 hMk
                          go_wp2_with fail
                          have q0 := kr2.out.cell 0
                          refine leaves_two hk0.out hk1.out hDD.out (v := .bool true) (by simp [results, Try.results3, go_sem, q0]) ⟨rfl, hB2.out⟩
end Go.Proofs.Ytoaggmegmgdgbaa
