/- filigreelaw22.ItinSame: the walk. -/
import Derived.Test.YtbddlbhanpjdnaaDoorItS
import Derived.Test.YtbddlbhanpjdnaaDoorItD
import Derived.Test.YtbddlbhanpjdnaaDoorSame
import Derived.Test.YtbddlbhanpjdnaaDoorAdrL
import Derived.Deep.CutRange
namespace Go.Proofs.YtbddlbhanpjdnaaDoor
open Go.RowKit Go.Sort

theorem own_grown {w w' : World} {row : Option Nat} {base : Nat} {T : TypeId} {size : Nat} {v : Value} {n : Nat} {xs : List Value} (h : w.ownsRow base T size v n xs) (hb : w.grownBy w' row) (hne : ∀ g, v.ownBlock = some g → some g = row → False) : w'.ownsRow base T size v n xs := by
  refine ⟨h.1, ?_⟩
  rcases h.2 with hn | ⟨g, cap, cur, rfl, hg, hh, rest⟩
  · exact .inl hn
  · exact .inr ⟨g, cap, cur, rfl, hg, (hb.block g (heap_lt hh) (fun e => hne g rfl e)).trans hh, rest⟩

/-- A row written out longer. -/
theorem long_at {P Q : List Nat} (hQ : 0 < Q.length) (a t n : Nat) : rowAt (rowL P Q 0 (P.length + a)) (rowL P Q (P.length + a) (Q.length * (t + 1))) n = rowAt P Q n := by
  have hM : 0 < Q.length * (t + 1) := Nat.mul_pos hQ (by omega)
  rcases Nat.lt_or_ge n (P.length + a) with h | h
  · have e := rowAt_pre (p := rowL P Q 0 (P.length + a)) (q := rowL P Q (P.length + a) (Q.length * (t + 1))) (n := n) (by rw [rowL_len]; exact h)
    rw [rowL_get h, Nat.zero_add] at e
    exact (Option.some.inj e).symm
  · have e := rowAt_per (p := rowL P Q 0 (P.length + a)) (q := rowL P Q (P.length + a) (Q.length * (t + 1))) (n := n) (by rw [rowL_len]; exact h) (by rw [rowL_len]; exact hM)
    rw [rowL_len, rowL_len, rowL_get (Nat.mod_lt _ hM)] at e
    rw [← Option.some.inj e]
    have hp := ((per_row (p := P) hQ).up (N' := P.length + a) (by omega)).mul (t + 1)
    rw [Nat.mul_comm (t + 1)] at hp
    exact (hp.rest h).symm
theorem long_may {P Q : List Nat} (h : mayI P Q = true) (a t : Nat) (ha : a ≤ 40) (ht : t ≤ 10) (hl : P.length + Q.length ≤ 40) : mayI (rowL P Q 0 (P.length + a)) (rowL P Q (P.length + a) (Q.length * (t + 1))) = true := by
  obtain ⟨m1, m2, -, -⟩ := mayI_spec h
  have hM : 0 < Q.length * (t + 1) := Nat.mul_pos m1 (by omega)
  have hM2 : Q.length * (t + 1) ≤ 40 * 11 := Nat.mul_le_mul (by omega) (by omega)
  have hs : ∀ b k v, v ∈ rowL P Q b k → symB v = true := fun b k v hv => by
    unfold rowL at hv
    obtain ⟨j, -, rfl⟩ := List.mem_map.1 hv
    exact mayI_sym h _
  have hn : rowL P Q (P.length + a) (Q.length * (t + 1)) ≠ [] := fun e => by
    have := rowL_len P Q (P.length + a) (Q.length * (t + 1))
    rw [e] at this
    simp at this
    omega
  simp only [mayI, Bool.and_eq_true, List.all_eq_true, decide_eq_true_eq]
  exact ⟨⟨⟨hn, by rw [rowL_len, rowL_len]; omega⟩, hs _ _⟩, hs _ _⟩
/-- Unlike, just if the lowest forms are. -/
theorem unlike_low {P Q P' Q' : List Nat} (h : mayI P Q = true) (h' : mayI P' Q' = true) : difB P Q P' Q' = !(decide (lowP P Q = lowP P' Q') && decide (lowQ P Q = lowQ P' Q')) := by
  obtain ⟨m1, -⟩ := mayI_spec h
  obtain ⟨m1', -⟩ := mayI_spec h'
  unfold difB
  by_cases e : ∀ n, rowAt P Q n = rowAt P' Q' n
  · obtain ⟨e1, e2⟩ := low_alike m1 m1' e
    rw [(difO_none m1 m1').2 e, decide_eq_true e1, decide_eq_true e2]
    rfl
  · have e0 : (difO P Q P' Q').isSome = true := by
      cases hd : difO P Q P' Q' with
      | none => exact absurd ((difO_none m1 m1').1 hd) e
      | some _ => rfl
    rw [e0]
    by_cases e3 : lowP P Q = lowP P' Q' ∧ lowQ P Q = lowQ P' Q'
    · exact absurd (fun n => by rw [← low_at m1 n, ← low_at m1' n, e3.1, e3.2]) e
    · by_cases e4 : lowP P Q = lowP P' Q'
      · rw [decide_eq_false (fun e5 => e3 ⟨e4, e5⟩)]; simp
      · rw [decide_eq_false e4]; simp
theorem difV_alike {P Q P' Q' : List Nat} (h : mayI P Q = true) (h' : mayI P' Q' = true) (e : ∀ n, rowAt P Q n = rowAt P' Q' n) : difV P Q P' Q' = .tuple #[.int .i64 0, .bool false, .int .i64 0] := by
  obtain ⟨m1, -⟩ := mayI_spec h
  obtain ⟨m1', -⟩ := mayI_spec h'
  rw [difV, h, h', difN, difB, (difO_none m1 m1').2 e]
  rfl
theorem rhoV_alike {P Q P' Q' : List Nat} (h : mayI P Q = true) (h' : mayI P' Q' = true) (e : ∀ n, rowAt P Q n = rowAt P' Q' n) (n : Nat) (h1 : 1 ≤ n) (h2 : n ≤ 4096) : ∃ (k : Nat) (b : Bool), rhoV P Q (n : Int) = .tuple #[.int .i64 (k : Int), .bool b, .int .i64 0] ∧ rhoV P' Q' (n : Int) = .tuple #[.int .i64 (k : Int), .bool b, .int .i64 0] := by
  obtain ⟨m1, -⟩ := mayI_spec h
  obtain ⟨m1', -⟩ := mayI_spec h'
  have a1 : rhoE P Q (n : Int) = 0 := by unfold rhoE; rw [h]; simp; omega
  have a2 : rhoE P' Q' (n : Int) = 0 := by unfold rhoE; rw [h']; simp; omega
  refine ⟨rhoN P Q n, decide (0 < rhoN P Q n), ?_, ?_⟩
  · rw [rhoV, if_pos a1, Int.toNat_natCast]
  · rw [rhoV, if_pos a2, Int.toNat_natCast, ← rhoN_alike m1 m1' e]
theorem itn_lt {W : World} {a b : Value} {P Q : List Nat} (h : Itn W a b P Q) : (∀ x, x ∈ P → x < 256) ∧ (∀ x, x ∈ Q → x < 256) := ⟨h.2.2.1, h.2.2.2.1⟩
theorem sym_lt {P Q : List Nat} (h : mayI P Q = true) (n : Nat) : rowAt P Q n < 256 := by
  have := mayI_sym h n
  simp [symB] at this
  omega

set_option maxRecDepth 100000 in
set_option maxHeartbeats 8000000 in
/-- filigreelaw22.ItinSame -/
theorem itinSame_any (a b : Value) (P Q : List Nat) (c d : Value) (P' Q' : List Nat) (times ahead : Int) (w : World) (h : Itn w a b P Q) (k : Itn w c d P' Q') (_ : (Lit.int .i64 times).wf = true) (_ : (Lit.int .i64 ahead).wf = true) :
    Calls Tryd.prog 7 #[.agg #[a, b], .agg #[c, d], .int .i64 times, .int .i64 ahead] w (RetVal (.bool true) w) := by
  obtain ⟨i0, hi, hz0, hz1, hz2⟩ := info_parts info_u8
  have hI0 := h
  have hJ0 := k
  obtain ⟨⟨A1, n1, c1, T1, rfl, h1⟩, ⟨A2, n2, c2, T2, rfl, h2⟩, s1, s2, l1, l2⟩ := h
  obtain ⟨⟨A3, n3, c3, T3, rfl, h3⟩, ⟨A4, n4, c4, T4, rfl, h4⟩, s3, s4, l3, l4⟩ := k
  have hBW : Below w.heap.size w ((w.alloc (.cells #[.slice A1 n1 c1, .slice A2 n2 c2] 28)).alloc (.cells #[.slice A3 n3 c3, .slice A4 n4 c4] 28)) := ((Below.refl _ w).alloc (Nat.le_refl _) _).alloc (by simp) _
  have k0 := (Blk.new w 28 #[.slice A1 n1 c1, .slice A2 n2 c2]).alloc (.cells #[.slice A3 n3 c3, .slice A4 n4 c4] 28)
  have k1 := Blk.new (w.alloc (.cells #[.slice A1 n1 c1, .slice A2 n2 c2] 28)) 28 #[.slice A3 n3 c3, .slice A4 n4 c4]
  rw [show (w.alloc (.cells #[.slice A1 n1 c1, .slice A2 n2 c2] 28)).heap.size = w.heap.size + 1 by simp] at k1
  have K : Hid (Keeps _ [(w.heap.size, #[.slice A1 n1 c1, .slice A2 n2 c2]), (w.heap.size + 1, #[.slice A3 n3 c3, .slice A4 n4 c4])]) := Lib.hid ((Keeps.one k0).snoc k1)
  obtain ⟨r, hr⟩ : ∃ r, r = chkE P Q := ⟨_, rfl⟩
  obtain ⟨r', hr'⟩ : ∃ r, r = chkE P' Q' := ⟨_, rfl⟩
  have hC := fun W (hb : Below w.heap.size w W) => iCheck_any (T1 := T1) (T2 := T2) A1 A2 n1 c1 n2 c2 P Q W (h1.below hb) (h2.below hb) s1 s2 l1 l2
  have hC' := fun W (hb : Below w.heap.size w W) => iCheck_any (T1 := T3) (T2 := T4) A3 A4 n3 c3 n4 c4 P' Q' W (h3.below hb) (h4.below hb) s3 s4 l3 l4
  rw [← hr] at hC
  rw [← hr'] at hC'
  have e1 := Lib.hid (rd_cells h1).1
  have e2 := Lib.hid (rd_cells h2).1
  have hI : Hid (∀ W, Below w.heap.size w W → Itn W (.slice A1 n1 c1) (.slice A2 n2 c2) P Q) := Lib.hid (fun W hb => hI0.below hb)
  have hJ : Hid (∀ W, Below w.heap.size w W → Itn W (.slice A3 n3 c3) (.slice A4 n4 c4) P' Q') := Lib.hid (fun W hb => hJ0.below hb)
  replace hBW := Lib.hid hBW
  replace hC := Lib.hid hC
  replace hC' := Lib.hid hC'
  replace hr := Lib.hid hr
  replace hr' := Lib.hid hr'
  clear h1 h2 h3 h4 s1 s2 s3 s4 l1 l2 l3 l4 hI0 hJ0 k0 k1
  go_enter Tryd.func7, Tryd.ntmps7
  go_wp2_with fail
  refine (hC.out _ hBW.out).mono ?_
  rintro en w1 ⟨rfl, hb⟩
  have hB := Lib.hid (hBW.out.trans (hb.mono hBW.out.size))
  replace K := Lib.hid (K.out.below hb)
  clear hb hBW hC
  cases hm : mayI P Q
  · obtain rfl : r = 220 := by rw [hr.out]; exact mayI_no hm
    clear hm hr hr' hI hJ hC' K
    go_wp2_with fail
    refine (lives_any _).mono ?_
    rintro en wz ⟨rfl, hb⟩
    have hBz := Lib.hid (hB.out.trans (hb.mono hB.out.size))
    clear hb
    go_wp2_with fail
    go_ret
    exact ⟨rfl, hBz.out⟩
  obtain rfl : r = 0 := by rw [hr.out]; exact mayI_yes hm
  have a0 : w1.cell? ⟨w.heap.size, 0, none⟩ = some (.slice A1 n1 c1) := (K.out.at_ 0 rfl).cell 0
  have a1 : w1.cell? ⟨w.heap.size, 1, none⟩ = some (.slice A2 n2 c2) := (K.out.at_ 0 rfl).cell 1
  clear hr
  have hq := mayI_spec hm
  have hn12 : n1 + n2 ≤ 4096 := by rw [e1.out, e2.out]; exact hq.2.1
  have hq0 : 0 < Q.length := hq.1
  clear hq
  replace hm := Lib.hid hm
  by_cases hbig : 40 < n1 + n2
  · have hbigI : (40 : Int) < (n1 : Int) + (n2 : Int) := by omega
    clear hr' hI hJ hC' K
    go_wp2_with fail
    refine (lives_any _).mono ?_
    rintro en wz ⟨rfl, hb⟩
    have hBz := Lib.hid (hB.out.trans (hb.mono hB.out.size))
    clear hb
    go_wp2_with fail
    go_ret
    exact ⟨rfl, hBz.out⟩
  have hbigI : ¬ (40 : Int) < (n1 : Int) + (n2 : Int) := by omega
  obtain ⟨xt, hT⟩ : ∃ x, times.tmod 5 = x := ⟨_, rfl⟩
  obtain ⟨xa, hA⟩ : ∃ x, ahead.tmod 30 = x := ⟨_, rfl⟩
  have hT5 : -5 < xt ∧ xt < 5 := by
    rw [← hT]
    have := Int.tmod_lt_of_pos times (b := 5) (by omega)
    have := Int.lt_tmod_of_pos times (b := 5) (by omega)
    omega
  have hA30 : -30 < xa ∧ xa < 30 := by
    rw [← hA]
    have := Int.tmod_lt_of_pos ahead (b := 30) (by omega)
    have := Int.lt_tmod_of_pos ahead (b := 30) (by omega)
    omega
  by_cases ht0 : xt < 0
  · clear hA hA30 hr' hI hJ hC' K
    go_wp2_with fail
    refine (lives_any _).mono ?_
    rintro en wz ⟨rfl, hb⟩
    have hBz := Lib.hid (hB.out.trans (hb.mono hB.out.size))
    clear hb
    go_wp2_with fail
    go_ret
    exact ⟨rfl, hBz.out⟩
  by_cases ha0 : xa < 0
  · clear hr' hI hJ hC' K
    go_wp2_with fail
    refine (lives_any _).mono ?_
    rintro en wz ⟨rfl, hb⟩
    have hBz := Lib.hid (hB.out.trans (hb.mono hB.out.size))
    clear hb
    go_wp2_with fail
    go_ret
    exact ⟨rfl, hBz.out⟩
  obtain ⟨tn, rfl⟩ : ∃ n : Nat, xt = (n : Int) := ⟨xt.toNat, by omega⟩
  obtain ⟨an, rfl⟩ : ∃ n : Nat, xa = (n : Int) := ⟨xa.toNat, by omega⟩
  have ht5 : tn < 5 := by omega
  have ha30 : an < 30 := by omega
  obtain ⟨M, hM⟩ : ∃ M, M = n2 * (tn + 1) := ⟨_, rfl⟩
  have hM9 : M ≤ 200 := by rw [hM]; exact Nat.le_trans (Nat.mul_le_mul (show n2 ≤ 40 by omega) (show tn + 1 ≤ 5 by omega)) (by omega)
  have hMI : (n2 : Int) * ((tn : Int) + 1) = (M : Int) := by rw [hM]; push_cast; rfl
  have hMw : IntKind.i64.wrap ((n2 : Int) * ((tn : Int) + 1)) = (M : Int) := by rw [hMI, IntKind.wrap_i64]; omega
  obtain ⟨LP, hLP⟩ : ∃ l, l = rowL P Q 0 (n1 + an) := ⟨_, rfl⟩
  obtain ⟨LQ, hLQ⟩ : ∃ l, l = rowL P Q (n1 + an) M := ⟨_, rfl⟩
  have hlm : mayI LP LQ = true := by
    rw [hLP, hLQ, hM, e1.out, e2.out]
    exact long_may hm.out an tn (by omega) (by omega) (by rw [← e1.out, ← e2.out]; omega)
  have hla : ∀ n, rowAt P Q n = rowAt LP LQ n := fun n => by
    rw [hLP, hLQ, hM, e1.out, e2.out, long_at hq0]
  have hat : Hid (∀ i : Nat, atV P Q (i : Int) = .tuple #[.int .u8 ((rowAt P Q i : Nat) : Int), .int .i64 0]) := Lib.hid (fun i => by
    have e : atE P Q (i : Int) = 0 := by unfold atE; rw [hm.out]; simp
    rw [atV, e, if_pos rfl, Int.toNat_natCast])
  have hq0' : 0 < LQ.length := (mayI_spec hlm).1
  have hlow := low_alike hq0 hq0' hla
  have hlow2 := low_alike (lowQ_pos (p := P) hq0) hq0 (low_at (p := P) hq0)
  have hlm2 : mayI (lowP P Q) (lowQ P Q) = true := low_may hm.out
  obtain ⟨PP, hPP⟩ : ∃ l, l = lowP P Q := ⟨_, rfl⟩
  obtain ⟨QQ, hQQ⟩ : ∃ l, l = lowQ P Q := ⟨_, rfl⟩
  rw [← hPP, ← hQQ] at hlow hlow2 hlm2
  replace hlow := Lib.hid hlow
  replace hlow2 := Lib.hid hlow2
  replace hlm := Lib.hid hlm
  replace hlm2 := Lib.hid hlm2
  replace hla := Lib.hid hla
  replace hLP := Lib.hid hLP
  replace hLQ := Lib.hid hLQ
  replace hPP := Lib.hid hPP
  replace hQQ := Lib.hid hQQ
  replace hq0 := Lib.hid hq0
  replace hq0' := Lib.hid hq0'
  replace hM := Lib.hid hM
  clear a0 a1 hbig hT5 hA30
  have kL := Lib.hid ((K.out.alloc (.cells #[.slice none 0 0, .slice none 0 0] 28)).snoc (Blk.new w1 28 #[.slice none 0 0, .slice none 0 0]))
  have hB2 := Lib.hid (hB.out.alloc hB.out.size (.cells #[.slice none 0 0, .slice none 0 0] 28))
  have hg0 : Hid (w.heap.size + 2 ≤ w1.heap.size) := Lib.hid (K.out.at_ 1 rfl).lt
  have c0 : w1.cell? ⟨w.heap.size, 0, none⟩ = some (.slice A1 n1 c1) := (K.out.at_ 0 rfl).cell 0
  have c1' : w1.cell? ⟨w.heap.size, 1, none⟩ = some (.slice A2 n2 c2) := (K.out.at_ 0 rfl).cell 1
  go_upto_region 7 with fail
  clear c0 c1' K hB
  generalize hW4 : w1.alloc (.cells #[.slice none 0 0, .slice none 0 0] 28) = w2 at kL hB2 ⊢
  have hgz : Hid (w2.heap.size = w1.heap.size + 1) := Lib.hid (by rw [← hW4]; simp)
  generalize hg4 : w1.heap.size = gl at kL hg0 hgz ⊢
  clear hW4 hg4
  have hl1 : w2.ownsRow (gl + 1) 5 1 (.slice none 0 0) 0 (ivs .u8 (rowL P Q 0 0)) := World.ownsRow_nil _ _ _ _
  have a0 : w2.cell? ⟨w.heap.size, 0, none⟩ = some (.slice A1 n1 c1) := (kL.out.at_ 0 rfl).cell 0
  have hgl := hgz.out
  go_wp2_with fail
  go_loopw [10, 11, 12] (fun iv _ _ wr => ∃ (i : Nat) (v : Value), iv = .int .i64 (i : Int) ∧ i ≤ n1 + an ∧ wr.ownsRow (gl + 1) 5 1 v i (ivs .u8 (rowL P Q 0 i)) ∧ Keeps wr [(w.heap.size, #[.slice A1 n1 c1, .slice A2 n2 c2]), (w.heap.size + 1, #[.slice A3 n3 c3, .slice A4 n4 c4]), (gl, #[v, .slice none 0 0])] ∧ Below w.heap.size w wr) (fun iv _ _ _ => n1 + an - (intOf iv).toNat)
  case atStart => exact ⟨0, _, rfl, Nat.zero_le _, hl1, kL.out, hB2.out⟩
  case round =>
    clear a0 hl1 kL hB2 hgz hgl
    obtain ⟨i, v, rfl, hi', ho, K, hB⟩ := hrel
    replace ho := Lib.hid ho
    replace K := Lib.hid K
    replace hB := Lib.hid hB
    have a0 : wr.cell? ⟨w.heap.size, 0, none⟩ = some (.slice A1 n1 c1) := (K.out.at_ 0 rfl).cell 0
    have a1 : wr.cell? ⟨w.heap.size, 1, none⟩ = some (.slice A2 n2 c2) := (K.out.at_ 0 rfl).cell 1
    obtain ⟨vA, vc, rfl⟩ : ∃ A c, v = .slice A i c := by
      rcases own_forms ho.out with ⟨e, e2⟩ | ⟨g, c, e⟩
      · exact ⟨none, 0, by rw [e, e2]⟩
      · exact ⟨_, _, e⟩
    by_cases hlo : i < n1 + an
    · have hloI : (i : Int) < (n1 : Int) + (an : Int) := by omega
      go_wp2_with fail
      refine (iAt_any _ _ P Q (i : Int) _ (hI.out _ hB.out) (by omega)).mono ?_
      rintro en w4 ⟨rfl, hb⟩
      rw [hat.out i]
      obtain ⟨x, hx⟩ : ∃ x, x = rowAt P Q i := ⟨_, rfl⟩
      rw [← hx]
      replace hB := Lib.hid (hB.out.trans (hb.mono hB.out.size))
      replace K := Lib.hid (K.out.below hb)
      replace ho := Lib.hid (own_below ho.out hb)
      have hnx : Hid (ivs .u8 (rowL P Q 0 i) ++ [.int .u8 (x : Int)] = ivs .u8 (rowL P Q 0 (i + 1))) := Lib.hid (by rw [rowL_succ, Nat.zero_add, ← hx, ivs_append]; rfl)
      replace hx := Lib.hid hx
      clear hb a0 a1
      have b0 : w4.cell? ⟨gl, 0, none⟩ = some (.slice vA i vc) := (K.out.at_ 2 rfl).cell 0
      have hgw : gl < w4.heap.size := (K.out.at_ 2 rfl).lt
      go_wp2_with (at_builtin; refine wpList_append_own _ rfl _ _ 26 rfl (gl + 1) 5 i0 (.int .u8 0) 1 1 Tryd.underlying26 hi hz0 hz1 hz2 rfl (by decide) _ _ _ rfl (ho.out.alloc _) ⟨w4.heap.size, 0, none⟩ 1 1 [.int .u8 (x : Int)] rfl rfl ?d1 ?d2 ?d3 ?d4 ?d5 ?_)
      case d1 =>
        intro j u hu
        obtain rfl : j = 0 := by have := (List.getElem?_eq_some_iff.1 hu).1; simp at this; omega
        cases hu
        exact (cell_of_row _ _ 0 #[.int .u8 (x : Int)] 5 (0, 0) (heap_alloc_new w4 _)).trans rfl
      case d2 => intro u hu; simp at hu; rw [hu]; rfl
      case d3 => unfold maxLen; omega
      case d4 => omega
      case d5 => simp; omega
      intro v' w3 hown' hgrow _
      have K3 := Lib.hid (show Keeps w3 _ from fun j y hy => Blk.grown ((K.out j y hy).alloc _) hgrow (fun e => by
        have h1 := (ho.out.lt _ e.symm).1
        match j, hy with
        | 0, hy => cases hy; have := hg0.out; simp at h1; omega
        | 1, hy => cases hy; have := hg0.out; simp at h1; omega
        | 2, hy => cases hy; simp at h1; omega))
      have hB3 : Below w.heap.size w w3 := (hB.out.alloc hB.out.size _).grown hgrow (by have := hB.out.size; simp; omega) (fun k hk => by have := (ho.out.lt k hk).1; have := hg0.out; omega)
      rw [hnx.out] at hown'
      obtain ⟨vA', vc', rfl⟩ : ∃ A c, v' = .slice A (i + 1) c := by
        rcases own_forms hown' with ⟨e, e2⟩ | ⟨g, c, e⟩
        · omega
        · exact ⟨_, _, e⟩
      have b0 : w3.cell? ⟨gl, 0, none⟩ = some (.slice vA i vc) := (K3.out.at_ 2 rfl).cell 0
      have f0 := (K3.out.at_ 2 rfl).frozen 0
      have K4 : Keeps (w3.setCell ⟨gl, 0, none⟩ (.slice vA' (i + 1) vc')) [(w.heap.size, #[.slice A1 n1 c1, .slice A2 n2 c2]), (w.heap.size + 1, #[.slice A3 n3 c3, .slice A4 n4 c4]), (gl, #[.slice vA' (i + 1) vc', .slice none 0 0])] := fun j y hy => by
        match j, hy with
        | 0, hy => cases hy; exact (K3.out.at_ 0 rfl).far (by have := hg0.out; simp; omega) _
        | 1, hy => cases hy; exact (K3.out.at_ 1 rfl).far (by have := hg0.out; simp; omega) _
        | 2, hy => cases hy; exact (K3.out.at_ 2 rfl).set_ 0 _
      have hB4 := hB3.setCell (p := ⟨gl, 0, none⟩) (by have := hg0.out; show _ ≤ gl; omega) (.slice vA' (i + 1) vc')
      have ho4 := ownsRow_setCell_below hown' (a := ⟨gl, 0, none⟩) (by show gl < gl + 1; omega) (.slice vA' (i + 1) vc')
      replace hown' := Lib.hid hown'
      replace hB3 := Lib.hid hB3
      replace K4 := Lib.hid K4
      replace hB4 := Lib.hid hB4
      replace ho4 := Lib.hid ho4
      clear hgrow K K3 ho hB hgw
      go_wp2_with fail
      go_roundw
      case rel => exact ⟨i + 1, _, by go_num, by omega, ho4.out, K4.out, hB4.out⟩
      case measure => simp [intOf]; omega
    · obtain rfl : i = n1 + an := by omega
      have hloI : ¬ ((n1 + an : Nat) : Int) < (n1 : Int) + (an : Int) := by omega
      have hoP : Hid (wr.ownsRow (gl + 1) 5 1 (.slice vA (n1 + an) vc) (n1 + an) (ivs .u8 LP)) := Lib.hid (by rw [hLP.out]; exact ho.out)
      have hgP : Hid (∀ g, (Value.slice vA (n1 + an) vc).ownBlock = some g → gl < g ∧ g < wr.heap.size) := Lib.hid (fun g hg => ho.out.lt g hg)
      obtain ⟨B2, hB2⟩ : ∃ B, B = wr.heap.size := ⟨_, rfl⟩
      have hB2l : Hid (gl + 1 ≤ B2) := Lib.hid (by rw [hB2]; exact (K.out.at_ 2 rfl).lt)
      have hl1 : wr.ownsRow B2 5 1 (.slice none 0 0) 0 (ivs .u8 (rowL P Q (n1 + an) 0)) := World.ownsRow_nil _ _ _ _
      rw [← hB2] at hgP
      obtain ⟨np, hnp⟩ : ∃ np, np = n1 + an := ⟨_, rfl⟩
      have hnpI : (n1 : Int) + (an : Int) = (np : Int) := by omega
      have hnp9 : np ≤ 100 := by omega
      rw [← hnp] at hoP hgP hl1 K
      have hB2s : Hid (B2 ≤ wr.heap.size) := Lib.hid (by omega)
      replace hnp := Lib.hid hnp
      replace hB2 := Lib.hid hB2
      clear ho a1
      go_wp2_with fail
      go_loopw [13, 14, 15] (fun jv _ _ wr => ∃ (j : Nat) (v : Value), jv = .int .i64 (j : Int) ∧ j ≤ M ∧ wr.ownsRow B2 5 1 v j (ivs .u8 (rowL P Q np j)) ∧ wr.ownsRow (gl + 1) 5 1 (.slice vA np vc) np (ivs .u8 LP) ∧ Keeps wr [(w.heap.size, #[.slice A1 n1 c1, .slice A2 n2 c2]), (w.heap.size + 1, #[.slice A3 n3 c3, .slice A4 n4 c4]), (gl, #[.slice vA np vc, v])] ∧ B2 ≤ wr.heap.size ∧ Below w.heap.size w wr) (fun jv _ _ _ => M - (intOf jv).toNat)
      case atStart => exact ⟨0, _, rfl, Nat.zero_le _, by first | exact hl1 | (rw [hnp.out]; exact hl1), hoP.out, K.out, hB2s.out, hB.out⟩
      case round =>
        clear a0 hl1 hoP K hB hB2s
        obtain ⟨j, v, rfl, hj, ho, hoP, K, hB2s, hB⟩ := hrel
        replace ho := Lib.hid ho
        replace hoP := Lib.hid hoP
        replace K := Lib.hid K
        replace hB := Lib.hid hB
        replace hB2s := Lib.hid hB2s
        have a0 : wr.cell? ⟨w.heap.size, 0, none⟩ = some (.slice A1 n1 c1) := (K.out.at_ 0 rfl).cell 0
        have a1 : wr.cell? ⟨w.heap.size, 1, none⟩ = some (.slice A2 n2 c2) := (K.out.at_ 0 rfl).cell 1
        obtain ⟨uA, uc, rfl⟩ : ∃ A c, v = .slice A j c := by
          rcases own_forms ho.out with ⟨e, e2⟩ | ⟨g, c, e⟩
          · exact ⟨none, 0, by rw [e, e2]⟩
          · exact ⟨_, _, e⟩
        by_cases hlo : j < M
        · have hloI : (j : Int) < (M : Int) := by omega
          go_wp2_with fail
          refine (iAt_any _ _ P Q ((np : Int) + (j : Int)) _ (hI.out _ hB.out) (by omega)).mono ?_
          rintro en w4 ⟨rfl, hb⟩
          rw [show (np : Int) + (j : Int) = ((np + j : Nat) : Int) by push_cast; rfl, hat.out (np + j)]
          obtain ⟨x, hx⟩ : ∃ x, x = rowAt P Q (np + j) := ⟨_, rfl⟩
          rw [← hx]
          replace hB := Lib.hid (hB.out.trans (hb.mono hB.out.size))
          replace K := Lib.hid (K.out.below hb)
          replace ho := Lib.hid (own_below ho.out hb)
          replace hoP := Lib.hid (own_below hoP.out hb)
          replace hB2s := Lib.hid (Nat.le_trans hB2s.out hb.size)
          have hnx : Hid (ivs .u8 (rowL P Q np j) ++ [.int .u8 (x : Int)] = ivs .u8 (rowL P Q np (j + 1))) := Lib.hid (by rw [rowL_succ, ← hx, ivs_append]; rfl)
          replace hx := Lib.hid hx
          clear hb a0 a1
          have b0 : w4.cell? ⟨gl, 1, none⟩ = some (.slice uA j uc) := (K.out.at_ 2 rfl).cell 1
          have hgw : gl < w4.heap.size := (K.out.at_ 2 rfl).lt
          go_wp2_with (at_builtin; refine wpList_append_own _ rfl _ _ 26 rfl B2 5 i0 (.int .u8 0) 1 1 Tryd.underlying26 hi hz0 hz1 hz2 rfl (by decide) _ _ _ rfl (ho.out.alloc _) ⟨w4.heap.size, 0, none⟩ 1 1 [.int .u8 (x : Int)] rfl rfl ?d1 ?d2 ?d3 ?d4 ?d5 ?_)
          case d1 =>
            intro j' u hu
            obtain rfl : j' = 0 := by have := (List.getElem?_eq_some_iff.1 hu).1; simp at this; omega
            cases hu
            exact (cell_of_row _ _ 0 #[.int .u8 (x : Int)] 5 (0, 0) (heap_alloc_new w4 _)).trans rfl
          case d2 => intro u hu; simp at hu; rw [hu]; rfl
          case d3 => unfold maxLen; omega
          case d4 => omega
          case d5 => have := hB2s.out; simp; omega
          intro v' w3 hown' hgrow _
          have K3 := Lib.hid (show Keeps w3 _ from fun j' y hy => Blk.grown ((K.out j' y hy).alloc _) hgrow (fun e => by
            have h1 := (ho.out.lt _ e.symm).1
            have h2 := hB2l.out
            match j', hy with
            | 0, hy => cases hy; have := hg0.out; simp at h1; omega
            | 1, hy => cases hy; have := hg0.out; simp at h1; omega
            | 2, hy => cases hy; simp at h1; omega))
          have hB3 : Below w.heap.size w w3 := (hB.out.alloc hB.out.size _).grown hgrow (by have := hB.out.size; simp; omega) (fun k hk => by have := (ho.out.lt k hk).1; have := hg0.out; have := hB2l.out; omega)
          have hoP3 : w3.ownsRow (gl + 1) 5 1 (.slice vA np vc) np (ivs .u8 LP) := own_grown (hoP.out.alloc _) hgrow (fun g hg e => by
            have h1 := (hgP.out g hg).2
            have h2 := (ho.out.lt g e.symm).1
            omega)
          rw [hnx.out] at hown'
          obtain ⟨uA', uc', rfl⟩ : ∃ A c, v' = .slice A (j + 1) c := by
            rcases own_forms hown' with ⟨e, e2⟩ | ⟨g, c, e⟩
            · omega
            · exact ⟨_, _, e⟩
          have b0 : w3.cell? ⟨gl, 1, none⟩ = some (.slice uA j uc) := (K3.out.at_ 2 rfl).cell 1
          have f0 := (K3.out.at_ 2 rfl).frozen 1
          have K4 : Keeps (w3.setCell ⟨gl, 1, none⟩ (.slice uA' (j + 1) uc')) [(w.heap.size, #[.slice A1 n1 c1, .slice A2 n2 c2]), (w.heap.size + 1, #[.slice A3 n3 c3, .slice A4 n4 c4]), (gl, #[.slice vA np vc, .slice uA' (j + 1) uc'])] := fun j' y hy => by
            match j', hy with
            | 0, hy => cases hy; exact (K3.out.at_ 0 rfl).far (by have := hg0.out; simp; omega) _
            | 1, hy => cases hy; exact (K3.out.at_ 1 rfl).far (by have := hg0.out; simp; omega) _
            | 2, hy => cases hy; exact (K3.out.at_ 2 rfl).set_ 1 _
          have hB4 := hB3.setCell (p := ⟨gl, 1, none⟩) (by have := hg0.out; show _ ≤ gl; omega) (.slice uA' (j + 1) uc')
          have ho4 := ownsRow_setCell_below hown' (a := ⟨gl, 1, none⟩) (by have := hB2l.out; show gl < B2; omega) (.slice uA' (j + 1) uc')
          have hoP4 := ownsRow_setCell_below hoP3 (a := ⟨gl, 1, none⟩) (by show gl < gl + 1; omega) (.slice uA' (j + 1) uc')
          have hB2s4 : B2 ≤ (w3.setCell ⟨gl, 1, none⟩ (.slice uA' (j + 1) uc')).heap.size := by have := hgrow.size; have := hB2s.out; simp at *; omega
          replace hown' := Lib.hid hown'
          replace hB3 := Lib.hid hB3
          replace K4 := Lib.hid K4
          replace hB4 := Lib.hid hB4
          replace ho4 := Lib.hid ho4
          replace hoP4 := Lib.hid hoP4
          replace hoP3 := Lib.hid hoP3
          replace hB2s4 := Lib.hid hB2s4
          clear hgrow K K3 ho hB hgw hoP
          go_wp2_with fail
          go_roundw
          case rel => exact ⟨j + 1, _, by go_num, by omega, ho4.out, hoP4.out, K4.out, hB2s4.out, hB4.out⟩
          case measure => simp [intOf]; omega
        · obtain rfl : j = M := by omega
          have hloI : ¬ (j : Int) < (j : Int) := by omega
          have hoQ : wr.ownsRow B2 5 1 (.slice uA j uc) j (ivs .u8 LQ) := by rw [hLQ.out, ← hnp.out]; exact ho.out
          have hs9 : ∀ v, symB v = true → v < 256 := fun v h => by simp [symB] at h; omega
          have hsp := mayI_spec hlm.out
          have JL : Itn wr (.slice vA np vc) (.slice uA j uc) LP LQ := ⟨⟨_, _, _, _, rfl, own_rdn hoP.out⟩, ⟨_, _, _, _, rfl, own_rdn hoQ⟩, fun v hv => hs9 v (hsp.2.2.1 v hv), fun v hv => hs9 v (hsp.2.2.2 v hv), by omega, by omega⟩
          replace JL := Lib.hid JL
          clear ho hoP hoQ hs9 hsp a1 hB2s hgP hB2l hlo
          clear a0
          have z0a : wr.cell? ⟨w.heap.size, 0, none⟩ = some (.slice A1 n1 c1) := (K.out.at_ 0 rfl).cell 0
          have z0b : wr.cell? ⟨w.heap.size, 1, none⟩ = some (.slice A2 n2 c2) := (K.out.at_ 0 rfl).cell 1
          have z1a : wr.cell? ⟨gl, 0, none⟩ = some (.slice vA np vc) := (K.out.at_ 2 rfl).cell 0
          have z1b : wr.cell? ⟨gl, 1, none⟩ = some (.slice uA j uc) := (K.out.at_ 2 rfl).cell 1
          go_wp2_with fail
          refine (iDiffer_any _ _ _ _ P Q LP LQ _ (hI.out _ hB.out) JL.out).mono ?_
          rintro en w5 ⟨rfl, hb⟩
          rw [difV_alike hm.out hlm.out hla.out]
          replace hB := Lib.hid (hB.out.trans (hb.mono hB.out.size))
          replace K := Lib.hid (K.out.below hb)
          replace JL := Lib.hid (JL.out.below hb)
          clear hb z0a z0b z1a z1b
          have z0a : w5.cell? ⟨w.heap.size, 0, none⟩ = some (.slice A1 n1 c1) := (K.out.at_ 0 rfl).cell 0
          have z0b : w5.cell? ⟨w.heap.size, 1, none⟩ = some (.slice A2 n2 c2) := (K.out.at_ 0 rfl).cell 1
          go_wp2_with fail
          refine (iLowest_any _ _ P Q _ (hI.out _ hB.out) PP QQ (by rw [hm.out, hPP.out]; rfl) (by rw [hm.out, hQQ.out]; rfl)).mono ?_
          rintro en wl ⟨v1, v2, rfl, ⟨q1, Aa1, rfl⟩, ⟨q2, Aa2, rfl⟩, hb⟩
          rw [mayI_yes hm.out]
          have JA := Lib.hid ((Itn.of_pc ⟨q1, _, rfl⟩ ⟨q2, _, rfl⟩ hlm2.out).alloc (.cells #[.slice Aa1 PP.length PP.length, .slice Aa2 QQ.length QQ.length] 28))
          replace hB := Lib.hid ((hB.out.trans (hb.mono hB.out.size)).alloc (hB.out.trans (hb.mono hB.out.size)).size (.cells #[.slice Aa1 PP.length PP.length, .slice Aa2 QQ.length QQ.length] 28))
          replace K := Lib.hid (((K.out.below hb).alloc (.cells #[.slice Aa1 PP.length PP.length, .slice Aa2 QQ.length QQ.length] 28)).snoc (Blk.new wl 28 #[.slice Aa1 PP.length PP.length, .slice Aa2 QQ.length QQ.length]))
          replace JL := Lib.hid ((JL.out.below hb).alloc (.cells #[.slice Aa1 PP.length PP.length, .slice Aa2 QQ.length QQ.length] 28))
          clear hb z0a z0b q1 q2
          go_upto_region 19 with fail
          generalize hW : wl.alloc (.cells #[.slice Aa1 PP.length PP.length, .slice Aa2 QQ.length QQ.length] 28) = w6 at JL JA hB K ⊢
          generalize hg : wl.heap.size = ga at K ⊢
          clear hW hg wl
          have z0a : w6.cell? ⟨gl, 0, none⟩ = some (.slice vA np vc) := (K.out.at_ 2 rfl).cell 0
          have z0b : w6.cell? ⟨gl, 1, none⟩ = some (.slice uA j uc) := (K.out.at_ 2 rfl).cell 1
          go_wp2_with fail
          refine (iLowest_any _ _ LP LQ _ JL.out PP QQ (by rw [hlm.out]; exact hlow.out.1) (by rw [hlm.out]; exact hlow.out.2)).mono ?_
          rintro en wl ⟨v1, v2, rfl, ⟨q1, Bb1, rfl⟩, ⟨q2, Bb2, rfl⟩, hb⟩
          rw [mayI_yes hlm.out]
          have JB := Lib.hid ((Itn.of_pc ⟨q1, _, rfl⟩ ⟨q2, _, rfl⟩ hlm2.out).alloc (.cells #[.slice Bb1 PP.length PP.length, .slice Bb2 QQ.length QQ.length] 28))
          replace hB := Lib.hid ((hB.out.trans (hb.mono hB.out.size)).alloc (hB.out.trans (hb.mono hB.out.size)).size (.cells #[.slice Bb1 PP.length PP.length, .slice Bb2 QQ.length QQ.length] 28))
          replace K := Lib.hid (((K.out.below hb).alloc (.cells #[.slice Bb1 PP.length PP.length, .slice Bb2 QQ.length QQ.length] 28)).snoc (Blk.new wl 28 #[.slice Bb1 PP.length PP.length, .slice Bb2 QQ.length QQ.length]))
          replace JL := Lib.hid ((JL.out.below hb).alloc (.cells #[.slice Bb1 PP.length PP.length, .slice Bb2 QQ.length QQ.length] 28))
          replace JA := Lib.hid ((JA.out.below hb).alloc (.cells #[.slice Bb1 PP.length PP.length, .slice Bb2 QQ.length QQ.length] 28))
          clear hb z0a z0b q1 q2
          go_upto_region 20 with fail
          generalize hW : wl.alloc (.cells #[.slice Bb1 PP.length PP.length, .slice Bb2 QQ.length QQ.length] 28) = w7 at JL JA JB hB K ⊢
          generalize hg : wl.heap.size = gb at K ⊢
          clear hW hg wl
          have z0a : w7.cell? ⟨ga, 0, none⟩ = some (.slice Aa1 PP.length PP.length) := (K.out.at_ 3 rfl).cell 0
          have z0b : w7.cell? ⟨ga, 1, none⟩ = some (.slice Aa2 QQ.length QQ.length) := (K.out.at_ 3 rfl).cell 1
          go_wp2_with fail
          refine (iLowest_any _ _ PP QQ _ JA.out PP QQ (by rw [hlm2.out]; exact hlow2.out.1.symm) (by rw [hlm2.out]; exact hlow2.out.2.symm)).mono ?_
          rintro en wl ⟨v1, v2, rfl, ⟨q1, Cc1, rfl⟩, ⟨q2, Cc2, rfl⟩, hb⟩
          rw [mayI_yes hlm2.out]
          have JC := Lib.hid ((Itn.of_pc ⟨q1, _, rfl⟩ ⟨q2, _, rfl⟩ hlm2.out).alloc (.cells #[.slice Cc1 PP.length PP.length, .slice Cc2 QQ.length QQ.length] 28))
          replace hB := Lib.hid ((hB.out.trans (hb.mono hB.out.size)).alloc (hB.out.trans (hb.mono hB.out.size)).size (.cells #[.slice Cc1 PP.length PP.length, .slice Cc2 QQ.length QQ.length] 28))
          replace K := Lib.hid (((K.out.below hb).alloc (.cells #[.slice Cc1 PP.length PP.length, .slice Cc2 QQ.length QQ.length] 28)).snoc (Blk.new wl 28 #[.slice Cc1 PP.length PP.length, .slice Cc2 QQ.length QQ.length]))
          replace JL := Lib.hid ((JL.out.below hb).alloc (.cells #[.slice Cc1 PP.length PP.length, .slice Cc2 QQ.length QQ.length] 28))
          replace JA := Lib.hid ((JA.out.below hb).alloc (.cells #[.slice Cc1 PP.length PP.length, .slice Cc2 QQ.length QQ.length] 28))
          replace JB := Lib.hid ((JB.out.below hb).alloc (.cells #[.slice Cc1 PP.length PP.length, .slice Cc2 QQ.length QQ.length] 28))
          clear hb z0a z0b q1 q2
          go_upto_region 21 with fail
          generalize hW : wl.alloc (.cells #[.slice Cc1 PP.length PP.length, .slice Cc2 QQ.length QQ.length] 28) = w8 at JL JA JB JC hB K ⊢
          generalize hg : wl.heap.size = gc at K ⊢
          clear hW hg wl
          have z0a : w8.cell? ⟨ga, 0, none⟩ = some (.slice Aa1 PP.length PP.length) := (K.out.at_ 3 rfl).cell 0
          have z0b : w8.cell? ⟨ga, 1, none⟩ = some (.slice Aa2 QQ.length QQ.length) := (K.out.at_ 3 rfl).cell 1
          have z1a : w8.cell? ⟨gb, 0, none⟩ = some (.slice Bb1 PP.length PP.length) := (K.out.at_ 4 rfl).cell 0
          have z1b : w8.cell? ⟨gb, 1, none⟩ = some (.slice Bb2 QQ.length QQ.length) := (K.out.at_ 4 rfl).cell 1
          have z2a : w8.cell? ⟨gc, 0, none⟩ = some (.slice Cc1 PP.length PP.length) := (K.out.at_ 5 rfl).cell 0
          have z2b : w8.cell? ⟨gc, 1, none⟩ = some (.slice Cc2 QQ.length QQ.length) := (K.out.at_ 5 rfl).cell 1
          go_wp2_with fail
          refine (lsame_any _ _ _ _ PP QQ PP QQ _ JA.out JB.out).mono ?_
          rintro en w9 ⟨rfl, hb⟩
          replace hB := Lib.hid (hB.out.trans (hb.mono hB.out.size))
          replace K := Lib.hid (K.out.below hb)
          replace JL := Lib.hid (JL.out.below hb)
          replace JA := Lib.hid (JA.out.below hb)
          replace JC := Lib.hid (JC.out.below hb)
          rw [decide_eq_true (rfl : PP = PP), decide_eq_true (rfl : QQ = QQ)]
          clear hb JB z0a z0b z1a z1b z2a z2b
          have z0a : w9.cell? ⟨ga, 0, none⟩ = some (.slice Aa1 PP.length PP.length) := (K.out.at_ 3 rfl).cell 0
          have z0b : w9.cell? ⟨ga, 1, none⟩ = some (.slice Aa2 QQ.length QQ.length) := (K.out.at_ 3 rfl).cell 1
          have z1a : w9.cell? ⟨gc, 0, none⟩ = some (.slice Cc1 PP.length PP.length) := (K.out.at_ 5 rfl).cell 0
          have z1b : w9.cell? ⟨gc, 1, none⟩ = some (.slice Cc2 QQ.length QQ.length) := (K.out.at_ 5 rfl).cell 1
          go_wp2_with fail
          refine (lsame_any _ _ _ _ PP QQ PP QQ _ JA.out JC.out).mono ?_
          rintro en w10 ⟨rfl, hb⟩
          replace hB := Lib.hid (hB.out.trans (hb.mono hB.out.size))
          replace K := Lib.hid (K.out.below hb)
          replace JL := Lib.hid (JL.out.below hb)
          replace JA := Lib.hid (JA.out.below hb)
          rw [decide_eq_true (rfl : PP = PP), decide_eq_true (rfl : QQ = QQ)]
          clear hb JC z0a z0b z1a z1b
          go_wp2_with fail
          go_loopw [25, 26, 27, 28, 29, 30, 31] (fun iv _ _ _ _ _ _ wr => ∃ i : Nat, iv = .int .i64 ((i + 1 : Nat) : Int) ∧ i + 1 ≤ 20 ∧ Itn wr (.slice vA np vc) (.slice uA j uc) LP LQ ∧ Itn wr (.slice Aa1 PP.length PP.length) (.slice Aa2 QQ.length QQ.length) PP QQ ∧ Keeps wr [(w.heap.size, #[.slice A1 n1 c1, .slice A2 n2 c2]), (w.heap.size + 1, #[.slice A3 n3 c3, .slice A4 n4 c4]), (gl, #[.slice vA np vc, .slice uA j uc]), (ga, #[.slice Aa1 PP.length PP.length, .slice Aa2 QQ.length QQ.length])] ∧ Below w.heap.size w wr) (fun iv _ _ _ _ _ _ _ => 20 - (intOf iv).toNat)
          case atStart => exact ⟨0, rfl, by omega, JL.out, JA.out, fun i y hy => (match i, hy with
            | 0, hy => by cases hy; exact K.out.at_ 0 rfl
            | 1, hy => by cases hy; exact K.out.at_ 1 rfl
            | 2, hy => by cases hy; exact K.out.at_ 2 rfl
            | 3, hy => by cases hy; exact K.out.at_ 3 rfl), hB.out⟩
          case round =>
            clear JL JA K hB
            obtain ⟨i', rfl, hi9, JL, JA, K, hB⟩ := hrel
            replace JL := Lib.hid JL
            replace JA := Lib.hid JA
            replace K := Lib.hid K
            replace hB := Lib.hid hB
            obtain ⟨i, hii⟩ : ∃ i, i = i' + 1 := ⟨_, rfl⟩
            rw [← hii] at hi9 ⊢
            replace hii := Lib.hid hii
            have z0a : wr.cell? ⟨w.heap.size, 0, none⟩ = some (.slice A1 n1 c1) := (K.out.at_ 0 rfl).cell 0
            have z0b : wr.cell? ⟨w.heap.size, 1, none⟩ = some (.slice A2 n2 c2) := (K.out.at_ 0 rfl).cell 1
            have z1a : wr.cell? ⟨gl, 0, none⟩ = some (.slice vA np vc) := (K.out.at_ 2 rfl).cell 0
            have z1b : wr.cell? ⟨gl, 1, none⟩ = some (.slice uA j uc) := (K.out.at_ 2 rfl).cell 1
            by_cases hlo2 : i < 20
            · have hloI2 : (i : Int) < 20 := by omega
              obtain ⟨kk, bb, hr1, hr2⟩ := rhoV_alike hm.out hlm.out hla.out i (by have := hii.out; omega) (by omega)
              replace hr1 := Lib.hid hr1
              replace hr2 := Lib.hid hr2
              clear z1a z1b
              go_wp2_with fail
              refine (iRho_any _ _ P Q (i : Int) _ (hI.out _ hB.out)).mono ?_
              rintro en w4 ⟨rfl, hb⟩
              rw [hr1.out]
              replace hB := Lib.hid (hB.out.trans (hb.mono hB.out.size))
              replace K := Lib.hid (K.out.below hb)
              replace JL := Lib.hid (JL.out.below hb)
              replace JA := Lib.hid (JA.out.below hb)
              clear hb z0a z0b
              have z0a : w4.cell? ⟨gl, 0, none⟩ = some (.slice vA np vc) := (K.out.at_ 2 rfl).cell 0
              have z0b : w4.cell? ⟨gl, 1, none⟩ = some (.slice uA j uc) := (K.out.at_ 2 rfl).cell 1
              go_wp2_with fail
              refine (iRho_any _ _ LP LQ (i : Int) _ JL.out).mono ?_
              rintro en w5 ⟨rfl, hb⟩
              rw [hr2.out]
              replace hB := Lib.hid (hB.out.trans (hb.mono hB.out.size))
              replace K := Lib.hid (K.out.below hb)
              replace JL := Lib.hid (JL.out.below hb)
              replace JA := Lib.hid (JA.out.below hb)
              have hkk : ((kk : Int) != (kk : Int)) = false := bne_self_eq_false _
              have hbb : (bb != bb) = false := bne_self_eq_false _
              clear hb z0a z0b
              go_wp2_with fail
              go_roundw
              case rel => exact ⟨i, by go_num, by omega, JL.out, JA.out, K.out, hB.out⟩
              case measure => simp [intOf]; omega
            · obtain rfl : i = 20 := by omega
              clear z0a z0b z1a z1b hii
              have z0a : wr.cell? ⟨w.heap.size + 1, 0, none⟩ = some (.slice A3 n3 c3) := (K.out.at_ 1 rfl).cell 0
              have z0b : wr.cell? ⟨w.heap.size + 1, 1, none⟩ = some (.slice A4 n4 c4) := (K.out.at_ 1 rfl).cell 1
              go_wp2_with fail
              refine (hC'.out _ hB.out).mono ?_
              rintro en w4 ⟨rfl, hb⟩
              replace hB := Lib.hid (hB.out.trans (hb.mono hB.out.size))
              replace K := Lib.hid (K.out.below hb)
              replace JA := Lib.hid (JA.out.below hb)
              clear hb JL z0a z0b
              cases hm' : mayI P' Q'
              · obtain rfl : r' = 220 := by rw [hr'.out]; exact mayI_no hm'
                clear hm' hI hJ K JA
                go_wp2_with fail
                refine (lives_any _).mono ?_
                rintro en wz ⟨rfl, hb⟩
                have hBz := Lib.hid (hB.out.trans (hb.mono hB.out.size))
                clear hb
                go_wp2_with fail
                go_ret
                exact ⟨rfl, hBz.out⟩
              obtain rfl : r' = 0 := by rw [hr'.out]; exact mayI_yes hm'
              have hul := unlike_low hm.out hm'
              obtain ⟨PT, hPT⟩ : ∃ l, l = lowP P' Q' := ⟨_, rfl⟩
              obtain ⟨QT, hQT⟩ : ∃ l, l = lowQ P' Q' := ⟨_, rfl⟩
              rw [← hPT, ← hQT, ← hPP.out, ← hQQ.out] at hul
              obtain ⟨nn, bb, hdv, hbb⟩ : ∃ (nn : Nat) (bb : Bool), difV P Q P' Q' = .tuple #[.int .i64 (nn : Int), .bool bb, .int .i64 0] ∧ bb = difB P Q P' Q' := ⟨_, _, by rw [difV, hm.out, hm']; rfl, rfl⟩
              rw [← hbb] at hul
              have hmt : Hid (mayI PT QT = true) := Lib.hid (by rw [hPT, hQT]; exact low_may hm')
              replace hul := Lib.hid hul
              replace hdv := Lib.hid hdv
              replace hm' := Lib.hid hm'
              replace hPT := Lib.hid hPT
              replace hQT := Lib.hid hQT
              clear hbb
              have z0a : w4.cell? ⟨w.heap.size, 0, none⟩ = some (.slice A1 n1 c1) := (K.out.at_ 0 rfl).cell 0
              have z0b : w4.cell? ⟨w.heap.size, 1, none⟩ = some (.slice A2 n2 c2) := (K.out.at_ 0 rfl).cell 1
              have z1a : w4.cell? ⟨w.heap.size + 1, 0, none⟩ = some (.slice A3 n3 c3) := (K.out.at_ 1 rfl).cell 0
              have z1b : w4.cell? ⟨w.heap.size + 1, 1, none⟩ = some (.slice A4 n4 c4) := (K.out.at_ 1 rfl).cell 1
              go_wp2_with fail
              refine (iDiffer_any _ _ _ _ P Q P' Q' _ (hI.out _ hB.out) (hJ.out _ hB.out)).mono ?_
              rintro en w5 ⟨rfl, hb⟩
              rw [hdv.out]
              replace hB := Lib.hid (hB.out.trans (hb.mono hB.out.size))
              replace K := Lib.hid (K.out.below hb)
              replace JA := Lib.hid (JA.out.below hb)
              clear hb z0a z0b z1a z1b
              have z0a : w5.cell? ⟨w.heap.size + 1, 0, none⟩ = some (.slice A3 n3 c3) := (K.out.at_ 1 rfl).cell 0
              have z0b : w5.cell? ⟨w.heap.size + 1, 1, none⟩ = some (.slice A4 n4 c4) := (K.out.at_ 1 rfl).cell 1
              go_wp2_with fail
              refine (iLowest_any _ _ P' Q' _ (hJ.out _ hB.out) PT QT (by rw [hm'.out, hPT.out]; rfl) (by rw [hm'.out, hQT.out]; rfl)).mono ?_
              rintro en wl ⟨v1, v2, rfl, ⟨q1, Dd1, rfl⟩, ⟨q2, Dd2, rfl⟩, hb⟩
              rw [mayI_yes hm'.out]
              have JD := Lib.hid ((Itn.of_pc ⟨q1, _, rfl⟩ ⟨q2, _, rfl⟩ hmt.out).alloc (.cells #[.slice Dd1 PT.length PT.length, .slice Dd2 QT.length QT.length] 28))
              replace hB := Lib.hid ((hB.out.trans (hb.mono hB.out.size)).alloc (hB.out.trans (hb.mono hB.out.size)).size (.cells #[.slice Dd1 PT.length PT.length, .slice Dd2 QT.length QT.length] 28))
              replace K := Lib.hid (((K.out.below hb).alloc (.cells #[.slice Dd1 PT.length PT.length, .slice Dd2 QT.length QT.length] 28)).snoc (Blk.new wl 28 #[.slice Dd1 PT.length PT.length, .slice Dd2 QT.length QT.length]))
              replace JA := Lib.hid ((JA.out.below hb).alloc (.cells #[.slice Dd1 PT.length PT.length, .slice Dd2 QT.length QT.length] 28))
              clear hb z0a z0b q1 q2
              go_upto_region 34 with fail
              generalize hW : wl.alloc (.cells #[.slice Dd1 PT.length PT.length, .slice Dd2 QT.length QT.length] 28) = w6 at JA JD hB K ⊢
              generalize hg : wl.heap.size = gd at K ⊢
              clear hW hg wl
              have z0a : w6.cell? ⟨ga, 0, none⟩ = some (.slice Aa1 PP.length PP.length) := (K.out.at_ 3 rfl).cell 0
              have z0b : w6.cell? ⟨ga, 1, none⟩ = some (.slice Aa2 QQ.length QQ.length) := (K.out.at_ 3 rfl).cell 1
              have z1a : w6.cell? ⟨gd, 0, none⟩ = some (.slice Dd1 PT.length PT.length) := (K.out.at_ 4 rfl).cell 0
              have z1b : w6.cell? ⟨gd, 1, none⟩ = some (.slice Dd2 QT.length QT.length) := (K.out.at_ 4 rfl).cell 1
              go_wp2_with fail
              refine (lsame_any _ _ _ _ PP QQ PT QT _ JA.out JD.out).mono ?_
              rintro en w7 ⟨rfl, hb⟩
              replace hB := Lib.hid (hB.out.trans (hb.mono hB.out.size))
              obtain ⟨ss, hss⟩ : ∃ s, s = (decide (PP = PT) && decide (QQ = QT)) := ⟨_, rfl⟩
              rw [← hss]
              obtain rfl : bb = !ss := by rw [hul.out, hss]
              have hbb : ((!ss) == (!ss)) = true := beq_self_eq_true _
              clear hb hul hdv JA JD K hss z0a z0b z1a z1b
              go_wp2_with fail
              refine (lives_any _).mono ?_
              rintro en wz ⟨rfl, hb⟩
              have hBz := Lib.hid (hB.out.trans (hb.mono hB.out.size))
              clear hb
              go_wp2_with fail
              go_ret
              exact ⟨rfl, hBz.out⟩
end Go.Proofs.YtbddlbhanpjdnaaDoor
