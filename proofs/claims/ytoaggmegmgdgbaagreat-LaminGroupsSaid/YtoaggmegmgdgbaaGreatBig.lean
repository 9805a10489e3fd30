import Derived.Test.YtoaggmegmgdgbaaGreatWideE1
import Derived.Deep.RegionWith
import Derived.Test.YtoaggmegmgdgbaaGreatMem
namespace Go.Proofs.YtoaggmegmgdgbaaGreat
open Go.RowKit
def BS (w : World) (p o : Nat) : Prop := ∃ (cs : Array Value) (T : TypeId), w.heap[p]? = some (.cells cs T (0, 0)) ∧ T ≠ 243 ∧ o + 1 < cs.size
def Big (w : World) (p o : Nat) (z : Int) : Prop := ∃ (cs : Array Value) (T : TypeId) (v : Value), w.heap[p]? = some (.cells cs T (0, 0)) ∧ T ≠ 243 ∧
  cs[o]? = some (.bool (decide (z < 0))) ∧ cs[o + 1]? = some v ∧ Dg w v z.natAbs
section
variable {w w' : World} {p o : Nat} {z : Int}
theorem lt_of_size {cs : Array Value} {i : Nat} {v : Value} (h : cs[i]? = some v) : i < cs.size := by
  rcases Nat.lt_or_ge i cs.size with h' | h'
  · exact h'
  · rw [Array.getElem?_eq_none h'] at h; cases h
theorem Big.slot (h : Big w p o z) : BS w p o := by
  obtain ⟨cs, T, v, h1, h2, -, h4, -⟩ := h
  exact ⟨cs, T, h1, h2, lt_of_size h4⟩
theorem BS.lt (h : BS w p o) : p < w.heap.size := by
  obtain ⟨cs, T, h1, _⟩ := h
  rcases Nat.lt_or_ge p w.heap.size with hlt | hge
  · exact hlt
  · rw [Array.getElem?_eq_none hge] at h1; cases h1
theorem BS.drewN (h : BS w p o) (n : Nat) : BS (w.drewN n) p o := h
theorem BS.below (h : BS w p o) (hb : Below w.heap.size w w') : BS w' p o := by
  have hl := h.lt
  obtain ⟨cs, T, h1, h2⟩ := h
  exact ⟨cs, T, (hb.block p hl).trans h1, h2⟩
theorem BS.alloc (h : BS w p o) (x : Obj) : BS (w.alloc x) p o := h.below ((Below.refl _ _).alloc (Nat.le_refl _) _)
theorem Big.below (h : Big w p o z) (hb : Below w.heap.size w w') : Big w' p o z := by
  have hl := h.slot.lt
  obtain ⟨cs, T, v, h1, h2, h3, h4, h5⟩ := h
  exact ⟨cs, T, v, (hb.block p hl).trans h1, h2, h3, h4, h5.below hb⟩
theorem Big.alloc (h : Big w p o z) (x : Obj) : Big (w.alloc x) p o z := h.below ((Below.refl _ _).alloc (Nat.le_refl _) _)
theorem Big.cells (h : Big w p o z) : ∃ v, w.cell? ⟨p, o, none⟩ = some (.bool (decide (z < 0))) ∧ w.cell? ⟨p, o + 1, none⟩ = some v ∧ Dg w v z.natAbs := by
  obtain ⟨cs, T, v, h1, h2, h3, h4, h5⟩ := h
  exact ⟨v, by rw [cell_of_row w p o cs T (0, 0) h1]; exact h3, by rw [cell_of_row w p (o + 1) cs T (0, 0) h1]; exact h4, h5⟩
theorem BS.cells (h : BS w p o) : (∃ u, w.cell? ⟨p, o, none⟩ = some u) ∧ (∃ u, w.cell? ⟨p, o + 1, none⟩ = some u) ∧ w.frozen? ⟨p, o, none⟩ = false ∧ w.frozen? ⟨p, o + 1, none⟩ = false := by
  obtain ⟨cs, T, h1, h2, h3⟩ := h
  refine ⟨⟨cs[o]'(by omega), ?_⟩, ⟨cs[o + 1]'h3, ?_⟩, by simp [World.frozen?, h1], by simp [World.frozen?, h1]⟩
  · rw [cell_of_row w p o cs T (0, 0) h1]; exact Array.getElem?_eq_getElem _
  · rw [cell_of_row w p (o + 1) cs T (0, 0) h1]; exact Array.getElem?_eq_getElem _
theorem Big.of_set {v : Value} {b : Bool} (h : BS w p o) (hv : Dg w v z.natAbs) (hb : b = decide (z < 0)) : Big ((w.setCell ⟨p, o, none⟩ (.bool b)).setCell ⟨p, o + 1, none⟩ v) p o z := by
  obtain ⟨cs, T, h1, h2, h3⟩ := h
  have e1 : (w.setCell ⟨p, o, none⟩ (.bool b)).heap[p]? = some (.cells (cs.setIfInBounds o (.bool b)) T (0, 0)) := heap_setCell_same w p o cs T _ h1
  have e2 := heap_setCell_same (w.setCell ⟨p, o, none⟩ (.bool b)) p (o + 1) (cs.setIfInBounds o (.bool b)) T v e1
  refine ⟨_, T, v, e2, h2, ?_, ?_, ?_⟩
  · rw [Array.getElem?_setIfInBounds_ne (by omega), Array.getElem?_setIfInBounds_self_of_lt (by omega), hb]
  · rw [Array.getElem?_setIfInBounds_self_of_lt (by simpa using h3)]
  · exact Rd.setFar (Rd.setFar hv h1 (Ne.symm h2) _) e1 (Ne.symm h2) _
theorem gb_set2 (w : World) (p o o' : Nat) (u v : Value) : w.grownBy ((w.setCell ⟨p, o, none⟩ u).setCell ⟨p, o', none⟩ v) (some p) := gb_set (gb_set (gb_refl w _) _ _) _ _
theorem Big.new (w : World) : Big (w.alloc (.cells #[.bool false, .slice none 0 0] 151)) w.heap.size 0 0 :=
  ⟨_, _, _, heap_alloc_new w _, by decide, rfl, rfl, Dg.zero _⟩
theorem gb_of_below {row : Option Nat} (h : Below w.heap.size w w') : w.grownBy w' row := ⟨h.os, h.tape, h.output, h.size, fun k hk _ => h.block k hk⟩
theorem below_gb {B q : Nat} {a : World} (h : Below B a w) (hg : w.grownBy w' (some q)) (hB : B ≤ q) (hs : B ≤ w.heap.size) : Below B a w' :=
  h.trans (gb_below hg hB hs)
end
def RetBig (z : Int) (p o : Nat) (w : World) (e : Ending) (w' : World) : Prop := e = .returned (.pointer (some ⟨p, o, none⟩)) ∧ Big w' p o z ∧ w.grownBy w' (some p)
set_option maxHeartbeats 400000 in
theorem laid_any (p o n : Nat) (neg : Bool) (v : Value) (w : World) (h : BS w p o) (hv : Dg w v n) :
    Calls Tryz.prog 159 #[.pointer (some ⟨p, o, none⟩), .bool neg, v] w (RetBig (if neg then -(n : Int) else (n : Int)) p o w) := by
  obtain ⟨⟨u1, hc1⟩, ⟨u2, hc2⟩, hf1, hf2⟩ := h.cells
  have hBig : ∀ b : Bool, b = decide ((if neg then -(n : Int) else (n : Int)) < 0) → Big ((w.setCell ⟨p, o, none⟩ (.bool b)).setCell ⟨p, o + 1, none⟩ v) p o (if neg then -(n : Int) else (n : Int)) := fun b hb =>
    Big.of_set h (by
      have : (if neg then -(n : Int) else (n : Int)).natAbs = n := by cases neg <;> simp
      rw [this]; exact hv) hb
  obtain ⟨A, c, rfl, h1, h2, h3⟩ := id hv
  have hl0 := dg_len_zero n
  obtain ⟨L, hL⟩ : ∃ L, L = (dg n).length := ⟨_, rfl⟩
  rw [← hL] at hl0 h1 hBig ⊢
  have hBig := Lib.hid hBig
  have h3 := Lib.hid h3
  have hv := Lib.hid hv
  have hl0 := Lib.hid hl0
  clear hL
  cases neg
  · go_enter Tryz.func159, Tryz.ntmps159
    go_wp2
    go_ret
    exact ⟨rfl, hBig.out false (by simp), gb_set2 _ _ _ _ _ _⟩
  · by_cases hn : 0 < L
    · have hn1 : (0 : Int) < (L : Int) := by omega
      go_enter Tryz.func159, Tryz.ntmps159
      go_wp2
      go_ret
      exact ⟨rfl, hBig.out true (by have : n ≠ 0 := fun e => by have := hl0.out.2 e; omega
                                    simp; omega), gb_set2 _ _ _ _ _ _⟩
    · have hn1 : ¬ (0 : Int) < (L : Int) := by omega
      go_enter Tryz.func159, Tryz.ntmps159
      go_wp2
      go_ret
      exact ⟨rfl, hBig.out false (by have : n = 0 := hl0.out.1 (by omega)
                                     subst this; simp), gb_set2 _ _ _ _ _ _⟩
theorem two_digits {x : Nat} : val [x % 4294967296, x / 4294967296] = x := by simp [val]; omega
theorem sm_two {x : Nat} (h : x < 18446744073709551616) : Sm [x % 4294967296, x / 4294967296] := sm_cons (Nat.mod_lt _ (by omega)) (sm_cons (by omega) sm_nil)
set_option maxHeartbeats 400000 in
theorem setUint64_any (p o x : Nat) (w : World) (h : BS w p o) (hx : x < 18446744073709551616) :
    Calls Tryz.prog 160 #[.pointer (some ⟨p, o, none⟩), .int .u64 (x : Int)] w (RetBig (x : Int) p o w) := by
  have h := Lib.hid h
  go_enter Tryz.func160, Tryz.ntmps160
  go_wp2_with fail
  have hA : Arr (w.alloc (.cells #[.int .u32 ((x : Int) % 4294967296), .int .u32 ((x : Int) / 4294967296)] 243)) w.heap.size .u32 243 [x % 4294967296, x / 4294967296] := Arr.new w .u32 243 [x % 4294967296, x / 4294967296]
  have hR := Lib.hid (Rd.whole hA (by simp [maxLen]))
  clear hA
  refine (cut_any _ _ _ hR.out (sm_two hx)).mono ?_
  rintro e w1 ⟨v, rfl, hv, rfl⟩
  rw [two_digits] at hv
  have hv := Lib.hid hv
  have hs := Lib.hid (h.out.alloc (.cells #[.int .u32 ((x : Int) % 4294967296), .int .u32 ((x : Int) / 4294967296)] 243))
  go_wp2_with fail
  refine (laid_any p o x false v _ hs.out hv.out).mono ?_
  rintro e w2 ⟨rfl, hb, hg⟩
  have hb := Lib.hid hb
  have hg := Lib.hid hg
  go_wp2
  go_ret
  exact ⟨rfl, hb.out, gb_trans (gb_of_below ((Below.refl _ _).alloc (Nat.le_refl _) _)) hg.out⟩
def RetNew (z : Int) (w : World) (e : Ending) (w' : World) : Prop := ∃ p, e = .returned (.pointer (some ⟨p, 0, none⟩)) ∧ w.heap.size ≤ p ∧ Big w' p 0 z ∧ Below w.heap.size w w'
set_option maxHeartbeats 400000 in
theorem newInt_any (x : Nat) (w : World) (hx : x < 9223372036854775808) :
    Calls Tryz.prog 123 #[.int .i64 (x : Int)] w (RetNew (x : Int) w) := by
  have hx0 : ¬ (x : Int) < 0 := by omega
  go_enter Tryz.func123, Tryz.ntmps123
  go_wp2_with fail
  refine (setUint64_any _ 0 x _ (Big.new w).slot (by omega)).mono ?_
  rintro e w2 ⟨rfl, hb, hg⟩
  have hb := Lib.hid hb
  have hg := Lib.hid hg
  go_wp2
  go_ret
  exact ⟨w.heap.size, rfl, Nat.le_refl _, hb.out, below_gb ((Below.refl _ _).alloc (Nat.le_refl _) _) hg.out (Nat.le_refl _) (by simp)⟩
set_option maxHeartbeats 400000 in
theorem sign_any (p o : Nat) (z : Int) (w : World) (h : Big w p o z) :
    Calls Tryz.prog 157 #[.pointer (some ⟨p, o, none⟩)] w fun e w' => e = .returned (.int .i64 z.sign) ∧ w = w' := by
  obtain ⟨v, hc1, hc2, hv⟩ := h.cells
  obtain ⟨A, c, rfl, h1, h2, h3⟩ := id hv
  have hl0 := dg_len_zero z.natAbs
  obtain ⟨L, hL⟩ : ∃ L, L = (dg z.natAbs).length := ⟨_, rfl⟩
  rw [← hL] at hl0 h1 hc2
  have h3 := Lib.hid h3
  have hv := Lib.hid hv
  have h := Lib.hid h
  clear hL
  rcases Int.lt_trichotomy z 0 with hz | hz | hz
  · have e1 : z.sign = -1 := Int.sign_eq_neg_one_of_neg hz
    have hL : ((L : Int) == 0) = false := by
      have : L ≠ 0 := fun e => by have := hl0.1 e; omega
      simp; omega
    have hd : decide (z < 0) = true := by simpa using hz
    rw [hd] at hc1
    clear hl0
    go_enter Tryz.func157, Tryz.ntmps157
    go_wp2
    go_ret
    exact ⟨by rw [e1]; rfl, rfl⟩
  · subst hz
    have hL : L = 0 := hl0.2 rfl
    subst hL
    clear hl0
    go_enter Tryz.func157, Tryz.ntmps157
    go_wp2
    go_ret
    exact ⟨rfl, rfl⟩
  · have e1 : z.sign = 1 := Int.sign_eq_one_of_pos hz
    have hL : ((L : Int) == 0) = false := by
      have : L ≠ 0 := fun e => by have := hl0.1 e; omega
      simp; omega
    have hd : decide (z < 0) = false := by simp; omega
    rw [hd] at hc1
    clear hl0
    go_enter Tryz.func157, Tryz.ntmps157
    go_wp2
    go_ret
    exact ⟨by rw [e1]; rfl, rfl⟩
set_option maxHeartbeats 400000 in
theorem cmpBig_any (p o q u : Nat) (x y : Nat) (w : World) (hx : Big w p o (x : Int)) (hy : Big w q u (y : Int)) :
    Calls Tryz.prog 128 #[.pointer (some ⟨p, o, none⟩), .pointer (some ⟨q, u, none⟩)] w (RetCmp x y w) := by
  obtain ⟨v, hc1, hc2, hv⟩ := hx.cells
  obtain ⟨v', hc1', hc2', hv'⟩ := hy.cells
  rw [Int.natAbs_natCast] at hv hv'
  have hd : decide ((x : Int) < 0) = false := by simp
  rw [hd] at hc1
  clear hd hc1'
  have hx := Lib.hid hx
  have hy := Lib.hid hy
  have hv := Lib.hid hv
  have hv' := Lib.hid hv'
  by_cases hs : (x : Int).sign = (y : Int).sign
  · have t1 : ((x : Int).sign != (y : Int).sign) = false := by simp [hs]
    have t1 := Lib.hid t1
    clear hs
    obtain ⟨s, hse⟩ : ∃ s, s = (x : Int).sign := ⟨_, rfl⟩
    obtain ⟨s', hse'⟩ : ∃ s, s = (y : Int).sign := ⟨_, rfl⟩
    have t2 : (s != s') = false := by rw [hse, hse']; exact t1.out
    have hse := Lib.hid hse
    have hse' := Lib.hid hse'
    go_enter Tryz.func128, Tryz.ntmps128
    go_wp2_with fail
    refine (sign_any p o x w hx.out).mono ?_
    rintro e w1 ⟨rfl, rfl⟩
    rw [← hse.out]
    go_wp2_with fail
    refine (sign_any q u y w hy.out).mono ?_
    rintro e w1 ⟨rfl, rfl⟩
    rw [← hse'.out]
    go_wp2_with fail
    go_quiet ((go_at_call 165; exact quiet_dr (cmp_any v v' x y _ hv.out hv'.out)))
    go_wp2
    go_ret
    exact ⟨rfl, by repeat (first | exact Dr.refl _ | apply Dr.drewN)⟩
  · have t1 : ((x : Int).sign != (y : Int).sign) = true := by rw [bne_iff_ne]; exact hs
    have t1 := Lib.hid t1
    have hsl : (x < y ∧ (x : Int).sign < (y : Int).sign) ∨ (y < x ∧ (y : Int).sign < (x : Int).sign) := by
      rcases Nat.eq_zero_or_pos x with h1 | h1 <;> rcases Nat.eq_zero_or_pos y with h2 | h2
      · subst h1 h2; exact absurd rfl hs
      · left
        subst h1
        rw [Int.sign_eq_one_of_pos (show 0 < (y : Int) by omega)]
        exact ⟨h2, by decide⟩
      · right
        subst h2
        rw [Int.sign_eq_one_of_pos (show 0 < (x : Int) by omega)]
        exact ⟨h1, by decide⟩
      · rw [Int.sign_eq_one_of_pos (show 0 < (x : Int) by omega), Int.sign_eq_one_of_pos (show 0 < (y : Int) by omega)] at hs
        exact absurd rfl hs
    clear hs
    obtain ⟨s, hse⟩ : ∃ s, s = (x : Int).sign := ⟨_, rfl⟩
    obtain ⟨s', hse'⟩ : ∃ s, s = (y : Int).sign := ⟨_, rfl⟩
    have t2 : (s != s') = true := by rw [hse, hse']; exact t1.out
    rw [← hse, ← hse'] at hsl
    have hse := Lib.hid hse
    have hse' := Lib.hid hse'
    rcases hsl with ⟨hlt, hslt⟩ | ⟨hlt, hslt⟩
    · have HC := Lib.hid (cmpI_lt hlt)
      clear hlt
      go_enter Tryz.func128, Tryz.ntmps128
      go_wp2_with fail
      refine (sign_any p o x w hx.out).mono ?_
      rintro e w1 ⟨rfl, rfl⟩
      rw [← hse.out]
      go_wp2_with fail
      refine (sign_any q u y w hy.out).mono ?_
      rintro e w1 ⟨rfl, rfl⟩
      rw [← hse'.out]
      go_wp2
      go_ret
      exact ⟨by rw [HC.out]; rfl, Dr.refl _⟩
    · have HC := Lib.hid (cmpI_gt hlt)
      have hslt' : ¬ s < s' := by omega
      clear hlt
      go_enter Tryz.func128, Tryz.ntmps128
      go_wp2_with fail
      refine (sign_any p o x w hx.out).mono ?_
      rintro e w1 ⟨rfl, rfl⟩
      rw [← hse.out]
      go_wp2_with fail
      refine (sign_any q u y w hy.out).mono ?_
      rintro e w1 ⟨rfl, rfl⟩
      rw [← hse'.out]
      go_wp2
      go_ret
      exact ⟨by rw [HC.out]; rfl, Dr.refl _⟩
open Go.RowKit
set_option maxRecDepth 100000 in
set_option maxHeartbeats 400000 in
theorem gcdBig_any (p o pa oa pb ob x y : Nat) (w : World) (h : BS w p o) (hx : Big w pa oa (x : Int)) (hy : Big w pb ob (y : Int)) (hlx : (dg x).length ≤ 1073741823) (hly : (dg y).length ≤ 1073741823) :
    Calls Tryz.prog 126 #[.pointer (some ⟨p, o, none⟩), .pointer none, .pointer none, .pointer (some ⟨pa, oa, none⟩), .pointer (some ⟨pb, ob, none⟩)] w (RetBig ((Nat.gcd x y : Nat) : Int) p o w) := by
  obtain ⟨v, hc1, hc2, hv⟩ := hx.cells
  obtain ⟨v', hc1', hc2', hv'⟩ := hy.cells
  rw [Int.natAbs_natCast] at hv hv'
  clear hc1 hc1'
  have hx := Lib.hid hx
  have hy := Lib.hid hy
  have hv := Lib.hid hv
  have hv' := Lib.hid hv'
  have h := Lib.hid h
  go_enter Tryz.func126, Tryz.ntmps126
  go_wp2_with fail
  go_region_with (first | (go_at_call 163; refine (common_any v v' x y _ (hv.out.drewN 1) (hv'.out.drewN 1) hlx hly).mono ?_; rintro e w1 ⟨u, rfl, hu, hb⟩; have hu := Lib.hid hu; have hb := Lib.hid hb) | (go_at_call 159; refine (laid_any p o _ false _ _ ((h.out.drewN 1).below (by have := hb.out; exact this)) hu.out).mono ?_; rintro e w2 ⟨rfl, hb2, hg⟩; have hb2 := Lib.hid hb2; have hg := Lib.hid hg))
  all_goals
    go_wp2
    go_ret
    exact ⟨rfl, hb2.out, gb_trans (gb_of_below ((below_drewN (Below.refl _ _) 1).trans hb.out)) hg.out⟩
def be (l : List Nat) : Nat := l.foldl (fun a x => 256 * a + x) 0
theorem be_nil : be [] = 0 := rfl
theorem be_snoc (l : List Nat) (x : Nat) : be (l ++ [x]) = 256 * be l + x := by simp [be]
theorem be_take_succ {l : List Nat} {i x : Nat} (h : l[i]? = some x) : be (l.take (i + 1)) = 256 * be (l.take i) + x := by
  have hlt := lt_of_getElem? h
  have hx : l[i] = x := by rw [List.getElem?_eq_getElem hlt] at h; exact Option.some.inj h
  rw [List.take_succ_eq_append_getElem hlt, be_snoc, hx]
theorem digit_val {l : List Nat} (hl : Sm l) {j x : Nat} (h : l[j]? = some x) : x = val l / 4294967296 ^ j % 4294967296 := by
  rw [← val_drop hl, val_drop_cons h, Nat.add_mul_mod_self_left, Nat.mod_eq_of_lt (hl.get h)]
theorem byte_place {D : List Nat} (hD : Sm D) {V k c y : Nat} (hv : val D = V * 256 ^ (k + 1)) (hc : c < 256) (hy : D[k / 4]? = some y) :
    c * 2 ^ (k % 4 * 8) < 4294967296 ∧ (y ||| c * 2 ^ (k % 4 * 8)) = y + c * 2 ^ (k % 4 * 8) ∧ y + c * 2 ^ (k % 4 * 8) < 4294967296 ∧
      val (D.set (k / 4) (y + c * 2 ^ (k % 4 * 8))) = (256 * V + c) * 256 ^ k := by
  have e256 : (256 : Nat) = 2 ^ 8 := rfl
  have eB : (4294967296 : Nat) = 2 ^ 32 := rfl
  obtain ⟨q, hq⟩ : ∃ q, q = k / 4 := ⟨_, rfl⟩
  obtain ⟨r, hr⟩ : ∃ r, r = k % 4 := ⟨_, rfl⟩
  have hk : k = 4 * q + r := by omega
  have hr4 : r < 4 := by omega
  rw [← hq] at hy ⊢
  rw [← hr]
  have hyd := digit_val hD hy
  have hpow : 256 ^ (k + 1) = 4294967296 ^ q * 2 ^ (8 * r + 8) := by
    rw [e256, eB, ← Nat.pow_mul, ← Nat.pow_mul, ← Nat.pow_add]
    congr 1
    omega
  have hpow2 : 256 ^ k = 4294967296 ^ q * 2 ^ (8 * r) := by
    rw [e256, eB, ← Nat.pow_mul, ← Nat.pow_mul, ← Nat.pow_add]
    congr 1
    omega
  have hB0 : 0 < 4294967296 ^ q := Nat.pow_pos (by omega)
  have hdiv : val D / 4294967296 ^ q = V * 2 ^ (8 * r + 8) := by
    rw [hv, hpow, Nat.mul_comm (4294967296 ^ q), ← Nat.mul_assoc, Nat.mul_div_cancel _ hB0]
  rw [hdiv] at hyd
  have hsplit : 2 ^ (8 * r + 8) * 2 ^ (24 - 8 * r) = 4294967296 := by rw [← Nat.pow_add, show 8 * r + 8 + (24 - 8 * r) = 32 by omega]
  have hym : y = 2 ^ (8 * r + 8) * (V % 2 ^ (24 - 8 * r)) := by
    rw [hyd, ← hsplit, Nat.mul_comm V, Nat.mul_mod_mul_left]
  have hcl : c * 2 ^ (r * 8) < 2 ^ (8 * r + 8) := by
    rw [show r * 8 = 8 * r by omega, Nat.pow_add, Nat.mul_comm]
    exact Nat.mul_lt_mul_of_pos_left (by rw [← e256]; exact hc) (Nat.two_pow_pos _)
  have hle : 2 ^ (8 * r + 8) ≤ 4294967296 := by
    rw [eB]; exact Nat.pow_le_pow_right (by omega) (by omega)
  have hor : (y ||| c * 2 ^ (r * 8)) = y + c * 2 ^ (r * 8) := by
    rw [hym]
    exact (Nat.two_pow_add_eq_or_of_lt hcl _).symm
  have hsum : y + c * 2 ^ (r * 8) < 4294967296 := by
    have h1 : V % 2 ^ (24 - 8 * r) + 1 ≤ 2 ^ (24 - 8 * r) := Nat.mod_lt _ (Nat.two_pow_pos _)
    have h2 := Nat.mul_le_mul_left (2 ^ (8 * r + 8)) h1
    rw [hsplit, Nat.mul_add, Nat.mul_one, ← hym] at h2
    omega
  refine ⟨by omega, hor, hsum, ?_⟩
  have e := val_set (y + c * 2 ^ (r * 8)) hy
  rw [Nat.mul_add, hv] at e
  have e2 : V * 256 ^ (k + 1) = 256 * V * 256 ^ k := by rw [Nat.pow_succ]; ac_rfl
  have e3 : 4294967296 ^ q * (c * 2 ^ (r * 8)) = c * 256 ^ k := by
    rw [hpow2, show r * 8 = 8 * r by omega]; ac_rfl
  rw [Nat.add_mul]
  omega
open Go.RowKit
set_option maxRecDepth 100000 in
set_option maxHeartbeats 400000 in
theorem setBytes_any (p o : Nat) (v : Value) (l : List Nat) (w : World) (h : BS w p o) (hv : Rd .u8 5 w v l) (hl : ∀ x, x ∈ l → x < 256) (hlen : l.length ≤ 1073741824) :
    Calls Tryz.prog 164 #[.pointer (some ⟨p, o, none⟩), v] w (RetBig ((be l : Nat) : Int) p o w) := by
  obtain ⟨A, c, rfl, h1, h2, h3⟩ := id hv
  have h := Lib.hid h
  have hv := Lib.hid hv
  have h3 := Lib.hid h3
  have hl := Lib.hid hl
  obtain ⟨n, hn⟩ : ∃ n, n = l.length := ⟨_, rfl⟩
  rw [← hn] at h1 hlen ⊢
  have Hn := Lib.hid hn
  clear hn
  obtain ⟨m, hm⟩ : ∃ m, m = n / 4 := ⟨_, rfl⟩
  have hmi : (n : Int) / 4 = (m : Int) := by omega
  have hmk : ∀ w : World, (Instr.makeSlice 149 (.int .i64 ((m : Int) + 1)) (.int .i64 ((m : Int) + 1))).run Tryz.prog w = .ok (.slice (some ⟨w.heap.size, 0, none⟩) (m + 1) (m + 1)) (w.alloc (.cells (ivs .u32 (List.replicate (m + 1) 0)).toArray 243)) := fun w => make_u32 (m + 1) (by omega) w
  have HM := Lib.hid hm
  clear hm
  go_enter Tryz.func164, Tryz.ntmps164
  go_wp2
  have hA0 := Arr.new w .u32 243 (List.replicate (m + 1) 0)
  have hB0 : Below w.heap.size w (w.alloc (.cells (ivs .u32 (List.replicate (m + 1) 0)).toArray 243)) := (Below.refl _ _).alloc (Nat.le_refl _) _
  generalize hw0 : w.alloc (.cells (ivs .u32 (List.replicate (m + 1) 0)).toArray 243) = w0 at hA0 hB0 ⊢
  generalize hg : w.heap.size = g at *
  have HG := Lib.hid hg
  clear hw0 hg hmk
  go_loopw [16] (fun i wr => ∃ (k : Nat) (D : List Nat), i = .int .i64 (k : Int) ∧ k ≤ n ∧ D.length = m + 1 ∧ Sm D ∧ val D = be (l.take k) * 256 ^ (n - k) ∧ Arr wr g .u32 243 D ∧ Below g w wr) (fun i _ => n - (intOf i).toNat)
  case atStart => exact ⟨0, _, rfl, Nat.zero_le _, by simp, sm_replicate _, by rw [val_replicate]; simp [be], hA0, hB0⟩
  case round =>
    obtain ⟨i, D, rfl, hi, hD, hS, hV, hA, hB⟩ := hrel
    have hV := Lib.hid hV
    have hD := Lib.hid hD
    by_cases h0 : i < n
    · obtain ⟨x, hx⟩ : ∃ x, l[i]? = some x := ⟨_, List.getElem?_eq_getElem (by rw [← Hn.out]; omega)⟩
      have hxs : x < 256 := hl.out x (List.mem_of_getElem? hx)
      obtain ⟨ga, oa, ca, La, ea, -, -, hAa, hLa⟩ := hv.out.open_ (fun e => by have := Hn.out; rw [e] at this; simp at this; omega)
      injection ea with ea1 _ ea2
      subst ea1 ea2
      have hcx : wr.cell? ⟨ga, oa + i, none⟩ = some (.int .u8 (x : Int)) := (hB.cell (by have := hAa.lt; rw [HG.out] at this; exact this)).trans (hAa.cell (hLa _ _ hx))
      obtain ⟨k, hk⟩ : ∃ k, k = n - 1 - i := ⟨_, rfl⟩
      have hki : (n : Int) - 1 - (i : Int) = (k : Int) := by omega
      obtain ⟨q, hq⟩ : ∃ q, q = k / 4 := ⟨_, rfl⟩
      have hqi : (k : Int) / 4 = (q : Int) := by omega
      have hqm : q < m + 1 := by have := HM.out; omega
      obtain ⟨sh, hsh⟩ : ∃ sh, sh = k % 4 * 8 := ⟨_, rfl⟩
      have hshi : (k : Int) % 4 * 8 = (sh : Int) := by omega
      have hsh32 : sh < 32 := by omega
      obtain ⟨y, hy⟩ : ∃ y, D[q]? = some y := ⟨_, List.getElem?_eq_getElem (by rw [hD.out]; exact hqm)⟩
      have hys := hS.get hy
      have hb := byte_place (k := k) (c := x) hS (by rw [hV.out, show n - i = k + 1 by omega]) hxs (by rw [← hq]; exact hy)
      rw [← hq, ← hsh] at hb
      obtain ⟨C, hC⟩ : ∃ C, C = x * 2 ^ sh := ⟨_, rfl⟩
      rw [← hC] at hb
      have hCi : (x : Int) * 2 ^ sh = (C : Int) := by rw [hC]; push_cast; rfl
      have hCs : C < 4294967296 := hb.1
      obtain ⟨R, hR⟩ : ∃ R, R = y + C := ⟨_, rfl⟩
      rw [← hR] at hb
      have hor : bits .or .u32 (y : Int) (C : Int) = (R : Int) := by rw [or32_nat y C hys hCs, hb.2.1]
      have hRs : R < 4294967296 := hb.2.2.1
      have hcy : wr.cell? ⟨g, q, none⟩ = some (.int .u32 (y : Int)) := hA.cell hy
      have hfy : wr.frozen? ⟨g, q, none⟩ = false := hA.frozen _
      have HV2 : Hid (val (D.set q R) = be (l.take (i + 1)) * 256 ^ (n - (i + 1))) := Lib.hid (by
        rw [hb.2.2.2, be_take_succ hx, show n - (i + 1) = k by omega])
      clear hx hk hq hsh hy hb hC hR
      go_wp2
      go_roundw
      case rel => exact ⟨i + 1, D.set q R, by go_num, by omega, by rw [List.length_set]; exact hD.out, hS.set_ hRs, HV2.out, hA.set_ _ _, hB.setCell (Nat.le_refl _) _⟩
      case measure => simp [intOf]; omega
    · obtain rfl : i = n := by omega
      have HV2 : Hid (val D = be l) := Lib.hid (by rw [hV.out, Nat.sub_self, Nat.pow_zero, Nat.mul_one, Hn.out, List.take_length])
      have hR : Rd .u32 243 wr (.slice (some ⟨g, 0, none⟩) (m + 1) (m + 1)) D := by
        have := Rd.whole hA (by rw [hD.out]; unfold maxLen; omega)
        rwa [hD.out] at this
      go_wp2_with fail
      refine (cut_any _ D wr hR hS).mono ?_
      rintro e w1 ⟨u, rfl, hu, rfl⟩
      rw [HV2.out] at hu
      have hu := Lib.hid hu
      have hBB : Below w.heap.size w wr := by rw [HG.out]; exact hB
      have hBB := Lib.hid hBB
      go_wp2_with fail
      refine (laid_any p o _ false u wr (h.out.below hBB.out) hu.out).mono ?_
      rintro e w2 ⟨rfl, hb2, hg⟩
      have hb2 := Lib.hid hb2
      have hg := Lib.hid hg
      go_wp2
      go_ret
      exact ⟨rfl, hb2.out, gb_trans (gb_of_below hBB.out) hg.out⟩
end Go.Proofs.YtoaggmegmgdgbaaGreat
