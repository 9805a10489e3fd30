/- Package filigreeref22: Shift. -/
import Derived.Test.YtbddlbhanpjdnaaGreatDoorRefR
import Derived.Test.YtbddlbhanpjdnaaGreatDoorItS
import Derived.Deep.CutBlock
namespace Go.Proofs.YtbddlbhanpjdnaaGreatDoor
open Go.RowKit Go.Sort

/-- A row from a place on, written out. -/
theorem rowL_row {P Q : List Nat} (hQ : 0 < Q.length) {a l : Nat} (h : P.length ≤ a + l) (m : Nat) : rowAt (rowL P Q a l) (rowL P Q (a + l) Q.length) m = rowAt P Q (a + m) := by
  by_cases hm : m < l
  · rw [show rowAt (rowL P Q a l) (rowL P Q (a + l) Q.length) m = (rowL P Q a l).getD m 0 by rw [rowAt, if_pos (by rw [rowL_len]; exact hm)], List.getD_eq_getElem?_getD, rowL_get hm]
    rfl
  · have hk : (m - l) % Q.length < Q.length := Nat.mod_lt _ hQ
    rw [show rowAt (rowL P Q a l) (rowL P Q (a + l) Q.length) m = (rowL P Q (a + l) Q.length).getD ((m - l) % Q.length) 0 by rw [rowAt, if_neg (by rw [rowL_len]; exact hm), rowL_len, rowL_len], List.getD_eq_getElem?_getD, rowL_get hk]
    have h1 := Per.rest (Per.up (per_row (p := P) hQ) h) (n := a + m) (by omega)
    rw [h1, show a + m - (a + l) = m - l by omega]
    rfl
/-- The place that Shift goes to. -/
def shN (P Q : List Nat) (n : Nat) : Nat := if P.length < n then P.length + (n - P.length) % Q.length else n
theorem shN_at {P Q : List Nat} (hQ : 0 < Q.length) (n m : Nat) : rowAt P Q (shN P Q n + m) = rowAt P Q (n + m) := by
  unfold shN
  split
  · rename_i h
    have h1 := Nat.mod_add_div (n - P.length) Q.length
    have h2 := Per.mul (per_row (p := P) hQ) ((n - P.length) / Q.length) (P.length + (n - P.length) % Q.length + m) (by omega)
    rw [← h2, Nat.mul_comm]
    congr 1
    omega
  · rfl
theorem shift_low {P Q : List Nat} (hQ : 0 < Q.length) (n : Nat) {a l : Nat} (ha : a = shN P Q n) (h : P.length ≤ a + l) :
    lowP (rowL P Q a l) (rowL P Q (a + l) Q.length) = shP P Q n ∧ lowQ (rowL P Q a l) (rowL P Q (a + l) Q.length) = shQ P Q n := by
  unfold shP shQ
  refine low_alike (by rw [rowL_len]; exact hQ) (by rw [shB_len]; exact hQ) fun m => ?_
  rw [rowL_row hQ h, sh_at hQ, ha, shN_at hQ]
theorem rowL_lt {P Q : List Nat} (hQ : 0 < Q.length) (s1 : ∀ x, x ∈ P → x < 256) (s2 : ∀ x, x ∈ Q → x < 256) (a k : Nat) : ∀ x, x ∈ rowL P Q a k → x < 256 := fun x hx => by
  obtain ⟨j, -, rfl⟩ := List.mem_map.1 hx
  rcases rowAt_mem (p := P) (n := a + j) hQ with h | h
  · exact s1 _ h
  · exact s2 _ h

set_option maxRecDepth 100000 in
set_option maxHeartbeats 4000000 in
/-- filigreeref22.Shift -/
theorem rShift_any (a b : Value) (P Q : List Nat) (n : Nat) (w : World) (h : Itn w a b P Q) (hQ : 0 < Q.length) (hP9 : P.length ≤ 10000) (hQ9 : Q.length ≤ 10000) (hn : (n : Int) ≤ 9223372036854775807) :
    Calls Tryz.prog 24 #[.agg #[a, b], .int .i64 (n : Int)] w (RetPQf (shP P Q n) (shQ P Q n) w) := by
  have hI0 := h
  obtain ⟨⟨A1, n1, c1, T1, rfl, h1⟩, ⟨A2, n2, c2, T2, rfl, h2⟩, s1, s2, -, -⟩ := h
  have hI : Hid (∀ W, Below w.heap.size w W → Itn W (.slice A1 n1 c1) (.slice A2 n2 c2) P Q) := Lib.hid (fun W hb => hI0.below hb)
  have e1 := (rd_cells h1).1
  have e2 := (rd_cells h2).1
  have hrow : Hid (∀ (f n : Nat), f ≤ 100000 → n ≤ 100000 → ∀ W, Below w.heap.size w W → Calls Tryz.prog 47 #[.agg #[.slice A1 n1 c1, .slice A2 n2 c2], .int .i64 (f : Int), .int .i64 (n : Int)] W (RetOwn (rowL P Q f n) W)) := Lib.hid (fun f n hf hn W hb =>
    rRow_any _ _ P Q f n W (hI.out W hb) hQ (by omega) (by omega) (by omega) (by omega))
  obtain ⟨p, hp⟩ : ∃ p, p = shN P Q n := ⟨_, rfl⟩
  obtain ⟨l, hl⟩ : ∃ l, l = n1 - p := ⟨_, rfl⟩
  have hp9 : p ≤ 20000 := by
    rw [hp]; unfold shN
    split
    · have := Nat.mod_lt (n - P.length) hQ; omega
    · omega
  have hlow := Lib.hid (shift_low (P := P) (Q := Q) hQ n (l := l) hp (by omega))
  have hx : Hid ((∀ x, x ∈ rowL P Q p l → x < 256) ∧ (∀ x, x ∈ rowL P Q (p + l) n2 → x < 256)) := Lib.hid ⟨rowL_lt hQ s1 s2 _ _, rowL_lt hQ s1 s2 _ _⟩
  rw [← e2] at hlow
  have hpn : p = if n1 < n then n1 + (n - n1) % n2 else n := by rw [hp, shN, e1, e2]
  have hn1 : n1 ≤ 10000 := by omega
  have hn2 : n2 ≤ 10000 := by omega
  have hn20 : 0 < n2 := by omega
  have hBW : Below w.heap.size w ((w.alloc (.cells #[.slice A1 n1 c1, .slice A2 n2 c2] 30)).alloc (.cells #[.slice none 0 0, .slice none 0 0] 30)) := ((Below.refl _ w).alloc (Nat.le_refl _) _).alloc (by simp) _
  have k0 := (Blk.new w 30 #[.slice A1 n1 c1, .slice A2 n2 c2]).alloc (.cells #[.slice none 0 0, .slice none 0 0] 30)
  have k1 := Blk.new (w.alloc (.cells #[.slice A1 n1 c1, .slice A2 n2 c2] 30)) 30 #[.slice none 0 0, .slice none 0 0]
  rw [World.size_alloc] at k1
  replace k0 := Lib.hid k0
  replace k1 := Lib.hid k1
  replace hBW := Lib.hid hBW
  replace e1 := Lib.hid e1
  replace e2 := Lib.hid e2
  replace hl := Lib.hid hl
  clear h1 h2 s1 s2 hI0 hp hQ9 hP9
  by_cases hgt : n1 < n
  · rw [if_pos hgt] at hpn
    obtain ⟨k, hk⟩ : ∃ k, k = n - n1 := ⟨_, rfl⟩
    obtain ⟨r, hr⟩ : ∃ r, r = k % n2 := ⟨_, rfl⟩
    have hr2 : r < n2 := by rw [hr]; exact Nat.mod_lt _ hn20
    have hgtI : (n1 : Int) < (n : Int) := by omega
    have x1 : IntKind.i64.wrap ((n : Int) - (n1 : Int)) = (k : Int) := by rw [IntKind.wrap_i64]; omega
    have x2 : (k : Int).tmod (n2 : Int) = (r : Int) := by rw [hr]; exact tmod_nat _ _
    have hpr : p = n1 + r := by rw [hpn, hr, hk]
    have x3 : IntKind.i64.wrap ((n1 : Int) + (r : Int)) = (p : Int) := by rw [IntKind.wrap_i64]; omega
    have hn2I : ¬ (n2 : Int) = 0 := by omega
    have hn2N : ¬ n2 = 0 := by omega
    have hmx : max (0 : Int) ((n1 : Int) - (p : Int)) = (l : Int) := by have := hl.out; omega
    replace hpn := Lib.hid hpn
    replace hk := Lib.hid hk
    replace hr := Lib.hid hr
    replace hpr := Lib.hid hpr
    go_enter Tryz.func24, Tryz.ntmps24
    go_wp2_with fail
    go_quiet (fail)
    go_upto_region 4 with fail
    clear x1 x2 x3 hmx hpn hk hr hpr hgtI
    obtain ⟨W, hW⟩ : ∃ W : World, W = ((w.alloc (.cells #[.slice A1 n1 c1, .slice A2 n2 c2] 30)).alloc (.cells #[.slice none 0 0, .slice none 0 0] 30)).drewN nq := ⟨_, rfl⟩
    have hB : Below w.heap.size w W := by rw [hW]; exact below_drewN hBW.out nq
    have K0 : Blk W w.heap.size 30 #[.slice A1 n1 c1, .slice A2 n2 c2] := by rw [hW]; exact k0.out
    have K1 : Blk W (w.heap.size + 1) 30 #[.slice none 0 0, .slice none 0 0] := by rw [hW]; exact k1.out
    rw [← hW]
    have a0 : W.cell? ⟨w.heap.size, 0, none⟩ = some (.slice A1 n1 c1) := K0.cell 0
    have a1 : W.cell? ⟨w.heap.size, 1, none⟩ = some (.slice A2 n2 c2) := K0.cell 1
    have hS : Hid (∀ V, Below W.heap.size W V → V.cell? ⟨w.heap.size, 0, none⟩ = some (.slice A1 n1 c1) ∧ V.cell? ⟨w.heap.size, 1, none⟩ = some (.slice A2 n2 c2)) := Lib.hid (fun V hb => ⟨(Blk.below K0 hb).cell 0, (Blk.below K0 hb).cell 1⟩)
    have hR1 : Hid (Calls Tryz.prog 47 #[.agg #[.slice A1 n1 c1, .slice A2 n2 c2], .int .i64 (p : Int), .int .i64 (l : Int)] W.drew (RetOwn (rowL P Q p l) W.drew)) := Lib.hid (hrow.out p l (by omega) (by have := hl.out; omega) _ hB.drew)
    obtain ⟨q, hq⟩ : ∃ q, q = p + l := ⟨_, rfl⟩
    have hq9 : q ≤ 40000 := by have := hl.out; omega
    have hR2 : Hid (∀ V, Below W.heap.size W V → Calls Tryz.prog 47 #[.agg #[.slice A1 n1 c1, .slice A2 n2 c2], .int .i64 (q : Int), .int .i64 (n2 : Int)] V (RetOwn (rowL P Q q n2) V)) := Lib.hid (fun V hb => hrow.out q n2 (by omega) (by omega) _ (hB.trans (hb.mono hB.size)))
    obtain ⟨L1, hL1⟩ : ∃ L, L = rowL P Q p l := ⟨_, rfl⟩
    obtain ⟨L2, hL2⟩ : ∃ L, L = rowL P Q q n2 := ⟨_, rfl⟩
    have ll1 : L1.length = l := by rw [hL1, rowL_len]
    have ll2 : L2.length = n2 := by rw [hL2, rowL_len]
    have hlo2 : Hid (lowP L1 L2 = shP P Q n ∧ lowQ L1 L2 = shQ P Q n) := Lib.hid (by rw [hL1, hL2, hq]; exact hlow.out)
    have hlt := hx.out
    rw [← hq, ← hL1, ← hL2] at hlt
    have hl9 : l ≤ 10000 := by have := hl.out; omega
    have hLw : Hid (∀ V A3 c3 A4 c4, V.ownsRow W.heap.size 5 1 (.slice A3 l c3) l (ivs .u8 L1) → V.ownsRow W.heap.size 5 1 (.slice A4 n2 c4) n2 (ivs .u8 L2) → Calls Tryz.prog 23 #[.agg #[.slice A3 l c3, .slice A4 n2 c4]] V (RetPQf (lowP L1 L2) (lowQ L1 L2) V)) := Lib.hid (fun V A3 c3 A4 c4 o3 o4 =>
      rLowest_any _ _ L1 L2 V ⟨⟨_, _, _, _, rfl, own_rdn o3⟩, ⟨_, _, _, _, rfl, own_rdn o4⟩, hlt.1, hlt.2, by omega, by omega⟩ (by omega) (by omega) (by omega))
    rw [← hL1] at hR1
    rw [← hL2] at hR2
    have hpq : IntKind.i64.wrap (q : Int) = (q : Int) := by rw [IntKind.wrap_i64]; omega
    have hpq2 : (p : Int) + (l : Int) = (q : Int) := by omega
    have hz1 : Hid (w.heap.size + 1 < W.heap.size) := Lib.hid K1.lt
    replace K1 := Lib.hid K1
    replace hB := Lib.hid hB
    replace hq := Lib.hid hq
    replace hL1 := Lib.hid hL1
    replace hL2 := Lib.hid hL2
    replace ll1 := Lib.hid ll1
    replace ll2 := Lib.hid ll2
    clear hlt K0 hW k0 k1 hBW hrow hI hlow hx
    go_region_held3 (fun w' => w'.cell? ⟨w.heap.size, 0, none⟩ = some (.slice A1 n1 c1) ∧ w'.cell? ⟨w.heap.size, 1, none⟩ = some (.slice A2 n2 c2)) (go_keep)
      (first
        | (go_at_call 47; (with_reducible refine hR1.out.mono ?_); rintro en w3 ⟨v3, rfl, o3, hb3⟩; have hb3' := below_after (Nat.le_refl _) hb3; obtain ⟨s3, t3⟩ := hS.out _ hb3'; rw [ll1.out] at o3; obtain ⟨V3, C3, rfl⟩ := own_forms3 o3; replace o3 := Lib.hid o3; replace hb3' := Lib.hid hb3'; clear hb3)
        | (go_at_call 47; (with_reducible refine (hR2.out _ hb3'.out).mono ?_); rintro en w4 ⟨v4, rfl, o4, hb4⟩; have hb4' := hb3'.out.trans (hb4.mono hb3'.out.size); obtain ⟨s4, t4⟩ := hS.out _ hb4'; rw [ll2.out] at o4; obtain ⟨V4, C4, rfl⟩ := own_forms3 o4; have o34 := Lib.hid (own_below o3.out hb4); have o44 := Lib.hid (own_le o4 hb3'.out.size); replace hb4' := Lib.hid hb4'; clear hb4 o4)
        | (go_at_call 23; (with_reducible refine (hLw.out _ _ _ _ _ o34.out o44.out).mono ?_); rintro en w5 ⟨v5, v6, rfl, g5, g6, hb5⟩; have hb5' := hb4'.out.trans (hb5.mono hb4'.out.size); obtain ⟨s5, t5⟩ := hS.out _ hb5'; obtain ⟨V5, C5, rfl, -⟩ := g5.form; obtain ⟨V6, C6, rfl, -⟩ := g6.form; have j1 := Blk.below K1.out hb5'; have b0 : w5.cell? ⟨w.heap.size + 1, 0, none⟩ = some (.slice none 0 0) := j1.cell 0; have b1 : w5.cell? ⟨w.heap.size + 1, 1, none⟩ = some (.slice none 0 0) := j1.cell 1; have f0 := j1.frozen 0; have f1 := j1.frozen 1; have hz4 := Lib.hid hb4'.out.size; replace j1 := Lib.hid j1; replace hb5' := Lib.hid hb5'; replace g5 := Lib.hid g5; replace g6 := Lib.hid g6; clear hb5))
    all_goals go_wp2_with fail
    have hB6 := hB.out.trans (hb5'.out.mono hB.out.size)
    have KZ := Lib.hid (Blk.set_ (Blk.set_ j1.out 0 (.slice V5 (lowP L1 L2).length C5)) 1 (.slice V6 (lowQ L1 L2).length C6))
    have hBZ := Lib.hid ((hB6.setCell (p := ⟨w.heap.size + 1, 0, none⟩) (by simp) (.slice V5 (lowP L1 L2).length C5)).setCell (p := ⟨w.heap.size + 1, 1, none⟩) (by simp) (.slice V6 (lowQ L1 L2).length C6))
    have q0 := KZ.out.cell 0
    have q1 := KZ.out.cell 1
    have hz := hz1.out
    have hzz := hz4.out
    refine bodyPost_ret (v := .agg #[.slice V5 (lowP L1 L2).length C5, .slice V6 (lowQ L1 L2).length C6]) (by simp [results, Tryz.results24, go_sem, q0, q1]) rfl ?_
    rw [← hlo2.out.1, ← hlo2.out.2]
    refine ⟨_, _, rfl, (g5.out.keep (fun b hb1 hb2 => ?_)).le (by omega), (g6.out.keep (fun b hb1 hb2 => ?_)).le (by omega), hBZ.out⟩ <;>
      exact (Below.heap_setCell _ _ _ _ (by simp at hb1 ⊢; omega)).trans (Below.heap_setCell _ _ _ _ (by simp at hb1 ⊢; omega))
  · rw [if_neg hgt] at hpn
    subst hpn
    have hgtI : ¬ (n1 : Int) < (p : Int) := by omega
    have hmx : max (0 : Int) ((n1 : Int) - (p : Int)) = (l : Int) := by have := hl.out; omega
    go_enter Tryz.func24, Tryz.ntmps24
    go_wp2_with fail
    go_upto_region 4 with fail
    clear hmx hgtI
    obtain ⟨W, hW⟩ : ∃ W : World, W = ((w.alloc (.cells #[.slice A1 n1 c1, .slice A2 n2 c2] 30)).alloc (.cells #[.slice none 0 0, .slice none 0 0] 30)) := ⟨_, rfl⟩
    have hB : Below w.heap.size w W := by rw [hW]; exact hBW.out
    have K0 : Blk W w.heap.size 30 #[.slice A1 n1 c1, .slice A2 n2 c2] := by rw [hW]; exact k0.out
    have K1 : Blk W (w.heap.size + 1) 30 #[.slice none 0 0, .slice none 0 0] := by rw [hW]; exact k1.out
    rw [← hW]
    have a0 : W.cell? ⟨w.heap.size, 0, none⟩ = some (.slice A1 n1 c1) := K0.cell 0
    have a1 : W.cell? ⟨w.heap.size, 1, none⟩ = some (.slice A2 n2 c2) := K0.cell 1
    have hS : Hid (∀ V, Below W.heap.size W V → V.cell? ⟨w.heap.size, 0, none⟩ = some (.slice A1 n1 c1) ∧ V.cell? ⟨w.heap.size, 1, none⟩ = some (.slice A2 n2 c2)) := Lib.hid (fun V hb => ⟨(Blk.below K0 hb).cell 0, (Blk.below K0 hb).cell 1⟩)
    have hR1 : Hid (Calls Tryz.prog 47 #[.agg #[.slice A1 n1 c1, .slice A2 n2 c2], .int .i64 (p : Int), .int .i64 (l : Int)] W.drew (RetOwn (rowL P Q p l) W.drew)) := Lib.hid (hrow.out p l (by omega) (by have := hl.out; omega) _ hB.drew)
    obtain ⟨q, hq⟩ : ∃ q, q = p + l := ⟨_, rfl⟩
    have hq9 : q ≤ 40000 := by have := hl.out; omega
    have hR2 : Hid (∀ V, Below W.heap.size W V → Calls Tryz.prog 47 #[.agg #[.slice A1 n1 c1, .slice A2 n2 c2], .int .i64 (q : Int), .int .i64 (n2 : Int)] V (RetOwn (rowL P Q q n2) V)) := Lib.hid (fun V hb => hrow.out q n2 (by omega) (by omega) _ (hB.trans (hb.mono hB.size)))
    obtain ⟨L1, hL1⟩ : ∃ L, L = rowL P Q p l := ⟨_, rfl⟩
    obtain ⟨L2, hL2⟩ : ∃ L, L = rowL P Q q n2 := ⟨_, rfl⟩
    have ll1 : L1.length = l := by rw [hL1, rowL_len]
    have ll2 : L2.length = n2 := by rw [hL2, rowL_len]
    have hlo2 : Hid (lowP L1 L2 = shP P Q p ∧ lowQ L1 L2 = shQ P Q p) := Lib.hid (by rw [hL1, hL2, hq]; exact hlow.out)
    have hlt := hx.out
    rw [← hq, ← hL1, ← hL2] at hlt
    have hl9 : l ≤ 10000 := by have := hl.out; omega
    have hLw : Hid (∀ V A3 c3 A4 c4, V.ownsRow W.heap.size 5 1 (.slice A3 l c3) l (ivs .u8 L1) → V.ownsRow W.heap.size 5 1 (.slice A4 n2 c4) n2 (ivs .u8 L2) → Calls Tryz.prog 23 #[.agg #[.slice A3 l c3, .slice A4 n2 c4]] V (RetPQf (lowP L1 L2) (lowQ L1 L2) V)) := Lib.hid (fun V A3 c3 A4 c4 o3 o4 =>
      rLowest_any _ _ L1 L2 V ⟨⟨_, _, _, _, rfl, own_rdn o3⟩, ⟨_, _, _, _, rfl, own_rdn o4⟩, hlt.1, hlt.2, by omega, by omega⟩ (by omega) (by omega) (by omega))
    rw [← hL1] at hR1
    rw [← hL2] at hR2
    have hpq : IntKind.i64.wrap (q : Int) = (q : Int) := by rw [IntKind.wrap_i64]; omega
    have hpq2 : (p : Int) + (l : Int) = (q : Int) := by omega
    have hz1 : Hid (w.heap.size + 1 < W.heap.size) := Lib.hid K1.lt
    replace K1 := Lib.hid K1
    replace hB := Lib.hid hB
    replace hq := Lib.hid hq
    replace hL1 := Lib.hid hL1
    replace hL2 := Lib.hid hL2
    replace ll1 := Lib.hid ll1
    replace ll2 := Lib.hid ll2
    clear hlt K0 hW k0 k1 hBW hrow hI hlow hx
    go_region_held3 (fun w' => w'.cell? ⟨w.heap.size, 0, none⟩ = some (.slice A1 n1 c1) ∧ w'.cell? ⟨w.heap.size, 1, none⟩ = some (.slice A2 n2 c2)) (go_keep)
      (first
        | (go_at_call 47; (with_reducible refine hR1.out.mono ?_); rintro en w3 ⟨v3, rfl, o3, hb3⟩; have hb3' := below_after (Nat.le_refl _) hb3; obtain ⟨s3, t3⟩ := hS.out _ hb3'; rw [ll1.out] at o3; obtain ⟨V3, C3, rfl⟩ := own_forms3 o3; replace o3 := Lib.hid o3; replace hb3' := Lib.hid hb3'; clear hb3)
        | (go_at_call 47; (with_reducible refine (hR2.out _ hb3'.out).mono ?_); rintro en w4 ⟨v4, rfl, o4, hb4⟩; have hb4' := hb3'.out.trans (hb4.mono hb3'.out.size); obtain ⟨s4, t4⟩ := hS.out _ hb4'; rw [ll2.out] at o4; obtain ⟨V4, C4, rfl⟩ := own_forms3 o4; have o34 := Lib.hid (own_below o3.out hb4); have o44 := Lib.hid (own_le o4 hb3'.out.size); replace hb4' := Lib.hid hb4'; clear hb4 o4)
        | (go_at_call 23; (with_reducible refine (hLw.out _ _ _ _ _ o34.out o44.out).mono ?_); rintro en w5 ⟨v5, v6, rfl, g5, g6, hb5⟩; have hb5' := hb4'.out.trans (hb5.mono hb4'.out.size); obtain ⟨s5, t5⟩ := hS.out _ hb5'; obtain ⟨V5, C5, rfl, -⟩ := g5.form; obtain ⟨V6, C6, rfl, -⟩ := g6.form; have j1 := Blk.below K1.out hb5'; have b0 : w5.cell? ⟨w.heap.size + 1, 0, none⟩ = some (.slice none 0 0) := j1.cell 0; have b1 : w5.cell? ⟨w.heap.size + 1, 1, none⟩ = some (.slice none 0 0) := j1.cell 1; have f0 := j1.frozen 0; have f1 := j1.frozen 1; have hz4 := Lib.hid hb4'.out.size; replace j1 := Lib.hid j1; replace hb5' := Lib.hid hb5'; replace g5 := Lib.hid g5; replace g6 := Lib.hid g6; clear hb5))
    all_goals go_wp2_with fail
    have hB6 := hB.out.trans (hb5'.out.mono hB.out.size)
    have KZ := Lib.hid (Blk.set_ (Blk.set_ j1.out 0 (.slice V5 (lowP L1 L2).length C5)) 1 (.slice V6 (lowQ L1 L2).length C6))
    have hBZ := Lib.hid ((hB6.setCell (p := ⟨w.heap.size + 1, 0, none⟩) (by simp) (.slice V5 (lowP L1 L2).length C5)).setCell (p := ⟨w.heap.size + 1, 1, none⟩) (by simp) (.slice V6 (lowQ L1 L2).length C6))
    have q0 := KZ.out.cell 0
    have q1 := KZ.out.cell 1
    have hz := hz1.out
    have hzz := hz4.out
    refine bodyPost_ret (v := .agg #[.slice V5 (lowP L1 L2).length C5, .slice V6 (lowQ L1 L2).length C6]) (by simp [results, Tryz.results24, go_sem, q0, q1]) rfl ?_
    rw [← hlo2.out.1, ← hlo2.out.2]
    refine ⟨_, _, rfl, (g5.out.keep (fun b hb1 hb2 => ?_)).le (by omega), (g6.out.keep (fun b hb1 hb2 => ?_)).le (by omega), hBZ.out⟩ <;>
      exact (Below.heap_setCell _ _ _ _ (by simp at hb1 ⊢; omega)).trans (Below.heap_setCell _ _ _ _ (by simp at hb1 ⊢; omega))
end Go.Proofs.YtbddlbhanpjdnaaGreatDoor
