import Derived.Test.YtoaggmegmgdgbaaGreatNatC
import Derived.Deep.RegionHeld3
import Derived.Deep.DrawnRows
import Derived.Deep.RegionWith
namespace Go.Proofs.YtoaggmegmgdgbaaGreat
open Go.RowKit
def Blk (w : World) (g : Nat) (T : TypeId) (cs : Array Value) : Prop := w.heap[g]? = some (.cells cs T (0, 0))
section
variable {w w' : World} {g : Nat} {T : TypeId} {cs : Array Value}
theorem Blk.lt (h : Blk w g T cs) : g < w.heap.size := by
  rcases Nat.lt_or_ge g w.heap.size with hlt | hge
  · exact hlt
  · unfold Blk at h; rw [Array.getElem?_eq_none hge] at h; cases h
theorem Blk.cell (h : Blk w g T cs) (i : Nat) : w.cell? ⟨g, i, none⟩ = cs[i]? := cell_of_row w g i cs T (0, 0) h
theorem Blk.frozen (h : Blk w g T cs) (i : Nat) : w.frozen? ⟨g, i, none⟩ = false := by
  unfold Blk at h
  simp [World.frozen?, h]
theorem Blk.new (w : World) (T : TypeId) (cs : Array Value) : Blk (w.alloc (.cells cs T)) w.heap.size T cs := heap_alloc_new w _
theorem Blk.drew (h : Blk w g T cs) : Blk w.drew g T cs := h
theorem Blk.drewN (h : Blk w g T cs) (n : Nat) : Blk (w.drewN n) g T cs := h
theorem Blk.dr (hd : Dr w w') (h : Blk w g T cs) : Blk w' g T cs := by
  obtain ⟨n, rfl⟩ := hd
  exact h
theorem Blk.alloc (h : Blk w g T cs) (o : Obj) : Blk (w.alloc o) g T cs := (Below.heap_alloc w o g h.lt).trans h
theorem Blk.below (h : Blk w g T cs) (hb : Below w.heap.size w w') : Blk w' g T cs := (hb.block g h.lt).trans h
theorem Blk.grown {row : Option Nat} (h : Blk w g T cs) (hb : w.grownBy w' row) (hg : some g ≠ row) : Blk w' g T cs := (hb.block g h.lt hg).trans h
theorem Blk.far (h : Blk w g T cs) {p : Addr} (hp : g ≠ p.block) (u : Value) : Blk (w.setCell p u) g T cs := (Below.heap_setCell w p u g hp).trans h
theorem Blk.set_ (h : Blk w g T cs) (i : Nat) (u : Value) : Blk (w.setCell ⟨g, i, none⟩ u) g T (cs.setIfInBounds i u) := by
  unfold Blk at h ⊢
  simp [World.setCell, Array.getElem?_modify, h]
end
def ratioMay (neg : Bool) (num den : ByteArray) : Bool :=
  mayB num && mayB den && decide (0 < be (sl den)) && decide (Nat.gcd (be (sl num)) (be (sl den)) = 1) && (!neg || decide (0 < be (sl num)))
theorem mayB_size {s : ByteArray} (h : mayB s = true) : s.size ≤ 16384 := by simp [mayB] at h; exact h.1
theorem be_zero {s : ByteArray} (h : mayB s = true) : be (sl s) = 0 ↔ s.size = 0 := by
  constructor
  · intro h0
    have := natS_be h
    rw [h0] at this
    rw [← this]; rfl
  · intro h0
    have : sl s = [] := List.eq_nil_of_length_eq_zero (by rw [sl_len]; exact h0)
    rw [this]; rfl
theorem be_one {s : ByteArray} (h : mayB s = true) : be (sl s) = 1 ↔ s.toList = [1] := by
  constructor
  · intro h0
    have := natS_be h
    rw [h0] at this
    rw [← this, ByteArray.toList_eq]; decide
  · intro h0
    have h1 : s.data.toList = [1] := by rw [← ByteArray.toList_eq s]; exact h0
    simp [sl, h1, be]
theorem dg_len_str {s : ByteArray} (h : mayB s = true) : (dg (be (sl s))).length ≤ 1073741823 := by
  have h1 := be_lt (sl_lt s)
  rw [sl_len] at h1
  have h2 := mayB_size h
  refine Nat.le_trans (dg_len_le_of_lt (k := s.size) (Nat.lt_of_lt_of_le h1 (Nat.pow_le_pow_left (by omega) _))) (by omega)
theorem cmp_one (g : Nat) : (cmpI g 1 == 0) = decide (g = 1) := by
  unfold cmpI
  by_cases h1 : g < 1
  · have : g ≠ 1 := by omega
    simp [h1, this]
  · by_cases h2 : 1 < g
    · have : g ≠ 1 := by omega
      simp [h1, h2, this]
    · have : g = 1 := by omega
      subst this; rfl
def RetBool (b : Bool) (w : World) (e : Ending) (w' : World) : Prop := e = .returned (.bool b) ∧ Below w.heap.size w w'
attribute [local go_sem ↓] Go.wp_at_zero Go.wp_at_succ
set_option maxRecDepth 100000 in
set_option maxHeartbeats 1000000 in
theorem ratMay_gcd (neg : Bool) (num den : ByteArray) (w : World) (hn : mayB num = true) (hd : mayB den = true) (hn0 : num.size ≠ 0) (hd0 : den.size ≠ 0) :
    Calls Tryz.prog 83 #[.agg #[.bool neg, .string num, .string den]] w (RetBool (ratioMay neg num den) w) := by
  have s1 := mayB_size hn
  have s2 := mayB_size hd
  have l1 := dg_len_str hn
  have l2 := dg_len_str hd
  have hres : ratioMay neg num den = decide (Nat.gcd (be (sl num)) (be (sl den)) = 1) := by
    have h1 : 0 < be (sl num) := by
      rcases Nat.eq_zero_or_pos (be (sl num)) with h | h
      · exact absurd ((be_zero hn).1 h) hn0
      · exact h
    have h2 : 0 < be (sl den) := by
      rcases Nat.eq_zero_or_pos (be (sl den)) with h | h
      · exact absurd ((be_zero hd).1 h) hd0
      · exact h
    simp [ratioMay, hn, hd, h1, h2]
  have hres := Lib.hid hres
  have hn := Lib.hid hn
  have hd := Lib.hid hd
  have l1 := Lib.hid l1
  have l2 := Lib.hid l2
  have t1 : num.toList.isEmpty = false := by simp [List.isEmpty_eq_false_iff]; exact fun e => hn0 ((toList_nil_iff num).1 e)
  have t2 : den.toList.isEmpty = false := by simp [List.isEmpty_eq_false_iff]; exact fun e => hd0 ((toList_nil_iff den).1 e)
  clear hn0 hd0
  go_enter Tryz.func83, Tryz.ntmps83
  go_wp2_with fail
  have hK := Blk.new w 26 #[.bool neg, .string num, .string den]
  have hB0 : Below w.heap.size w (w.alloc (.cells #[.bool neg, .string num, .string den] 26)) := (Below.refl _ _).alloc (Nat.le_refl _) _
  refine (natCheck_any num _ (by omega)).mono ?_
  rintro e w1 ⟨rfl, hb⟩
  rw [hn.out]
  have hK := hK.below hb
  have hB0 := hB0.trans (hb.mono (by simp))
  have c1 : w1.cell? ⟨w.heap.size, 1, none⟩ = some (.string num) := hK.cell 1
  have c2 : w1.cell? ⟨w.heap.size, 2, none⟩ = some (.string den) := hK.cell 2
  have hK := Lib.hid hK
  have hB0 := Lib.hid hB0
  clear hb
  go_wp2_with fail
  refine (natCheck_any den _ (by omega)).mono ?_
  rintro e w2 ⟨rfl, hb⟩
  rw [hd.out]
  have hK := hK.out.below hb
  have hB0 := hB0.out.trans (hb.mono hB0.out.size)
  have c1 : w2.cell? ⟨w.heap.size, 1, none⟩ = some (.string num) := hK.cell 1
  have c2 : w2.cell? ⟨w.heap.size, 2, none⟩ = some (.string den) := hK.cell 2
  have hK := Lib.hid hK
  have hB0 := Lib.hid hB0
  clear hb
  go_wp2_with fail
  have hlt : w.heap.size < w2.heap.size := hK.out.lt
  go_region_held3 (fun w' => w'.cell? ⟨w.heap.size, 1, none⟩ = some (.string num) ∧ w'.cell? ⟨w.heap.size, 2, none⟩ = some (.string den)) (go_keep)
    (first
      | (go_at_call_of 127 (Value.string num); refine (whole_any num _ (by omega)).mono ?_; rintro e w3 ⟨p1, rfl, hp1, hb1, hB1⟩; have hz1 : w2.heap.size ≤ w3.heap.size := (by have := hB1.size; (try simp at this); omega); have k1 : w3.cell? ⟨w.heap.size, 1, none⟩ = some (.string num) := (hB1.cell (p := ⟨w.heap.size, 1, none⟩) (by first | omega | (simp; omega))).trans (by first | assumption | simp [*, go_sem]); have k2 : w3.cell? ⟨w.heap.size, 2, none⟩ = some (.string den) := (hB1.cell (p := ⟨w.heap.size, 2, none⟩) (by first | omega | (simp; omega))).trans (by first | assumption | simp [*, go_sem]))
      | (go_at_call_of 127 (Value.string den); refine (whole_any den _ (by omega)).mono ?_; rintro e w4 ⟨p2, rfl, hp2, hb2, hB2⟩; have hz2 : w3.heap.size ≤ w4.heap.size := (by have := hB2.size; (try simp at this); omega); have k3 : w4.cell? ⟨w.heap.size, 1, none⟩ = some (.string num) := (hB2.cell (p := ⟨w.heap.size, 1, none⟩) (by first | omega | (simp; omega))).trans (by first | assumption | simp [*, go_sem]); have k4 : w4.cell? ⟨w.heap.size, 2, none⟩ = some (.string den) := (hB2.cell (p := ⟨w.heap.size, 2, none⟩) (by first | omega | (simp; omega))).trans (by first | assumption | simp [*, go_sem]))
      | (go_at_call 126; refine (gcdBig_any _ 0 _ 0 _ 0 (be (sl num)) (be (sl den)) _ (by first | exact ((Big.new w2).slot.drew.below hB1).below hB2 | exact (Big.new w3).slot.below hB2 | exact (Big.new w4).slot) (by first | exact hb1.below hB2 | exact (hb1.alloc _).below hB2 | exact (hb1.below hB2).alloc _) (by first | exact hb2 | exact hb2.alloc _) l1.out l2.out).mono ?_; rintro e w5 ⟨rfl, hb3, hg⟩; have hz3 : w4.heap.size ≤ w5.heap.size := (by have := hg.size; (try simp at this); omega); have k5 : w5.cell? ⟨w.heap.size, 1, none⟩ = some (.string num) := hg.cell (by first | assumption | simp [*, go_sem]) (by simp; omega); have k6 : w5.cell? ⟨w.heap.size, 2, none⟩ = some (.string den) := hg.cell (by first | assumption | simp [*, go_sem]) (by simp; omega))
      | (go_at_call 123; refine (newInt_any 1 _ (by omega)).mono ?_; rintro e w6 ⟨p4, rfl, hp4, hb4, hB4⟩; have k7 : w6.cell? ⟨w.heap.size, 1, none⟩ = some (.string num) := (hB4.cell (p := ⟨w.heap.size, 1, none⟩) (by first | omega | (simp; omega))).trans (by first | assumption | simp [*, go_sem]); have k8 : w6.cell? ⟨w.heap.size, 2, none⟩ = some (.string den) := (hB4.cell (p := ⟨w.heap.size, 2, none⟩) (by first | omega | (simp; omega))).trans (by first | assumption | simp [*, go_sem]))
      | (go_at_call 128; refine (cmpBig_any _ 0 _ 0 (Nat.gcd (be (sl num)) (be (sl den))) 1 _ (hb3.below hB4) hb4).mono ?_; rintro e w7 ⟨rfl, n7, rfl⟩))
  all_goals
    have hX : Below w.heap.size w w4 := (by first
      | exact ((hB0.out.alloc (by omega) _).drew.trans (hB1.mono (by first | omega | (simp; omega)))).trans (hB2.mono (by first | omega | (simp; omega)))
      | exact (((hB0.out.drew).trans (hB1.mono (by first | omega | (simp; omega)))).alloc (by omega) _).trans (hB2.mono (by first | omega | (simp; omega)))
      | exact ((hB0.out.drew).trans (hB1.mono (by first | omega | (simp; omega)))).trans (hB2.mono (by first | omega | (simp; omega))))
    have hY : Below w.heap.size w w5 := (by first
      | exact below_gb hX hg (by omega) (by omega)
      | exact below_gb (hX.alloc (by omega) _) hg (by omega) (by simp; omega))
    have hZ : Below w.heap.size w (w6.drewN n7) := below_drewN (hY.trans (hB4.mono (by omega))) _
    go_wp2_with fail
    go_ret
    exact ⟨by rw [hres.out, ← cmp_one]; rfl, hZ⟩
theorem isEmpty_of_size {s : ByteArray} (h : s.size = 0) : s.toList.isEmpty = true := by simp [(toList_nil_iff s).2 h]
theorem isEmpty_of_size_ne {s : ByteArray} (h : s.size ≠ 0) : s.toList.isEmpty = false := by simp [List.isEmpty_eq_false_iff]; exact fun e => h ((toList_nil_iff s).1 e)
set_option maxRecDepth 100000 in
set_option maxHeartbeats 1000000 in
theorem ratMay_any (neg : Bool) (num den : ByteArray) (w : World) (z1 : num.size ≤ 9223372036854775807) (z2 : den.size ≤ 9223372036854775807) :
    Calls Tryz.prog 83 #[.agg #[.bool neg, .string num, .string den]] w (RetBool (ratioMay neg num den) w) := by
  have hK0 := Blk.new w 26 #[.bool neg, .string num, .string den]
  have hB0 : Below w.heap.size w (w.alloc (.cells #[.bool neg, .string num, .string den] 26)) := (Below.refl _ _).alloc (Nat.le_refl _) _
  have hK0 := Lib.hid hK0
  have hB0 := Lib.hid hB0
  cases hn : mayB num
  · have hres : Hid (ratioMay neg num den = false) := Lib.hid (by simp [ratioMay, hn])
    have hn := Lib.hid hn
    go_enter Tryz.func83, Tryz.ntmps83
    go_wp2_with fail
    refine (natCheck_any num _ z1).mono ?_
    rintro e w1 ⟨rfl, hb⟩
    rw [hn.out]
    have hb := Lib.hid hb
    go_wp2
    go_ret
    exact ⟨by rw [hres.out]; rfl, hB0.out.trans (hb.out.mono (by simp))⟩
  cases hd : mayB den
  · have hres : Hid (ratioMay neg num den = false) := Lib.hid (by simp [ratioMay, hd])
    have hn := Lib.hid hn
    have hd := Lib.hid hd
    go_enter Tryz.func83, Tryz.ntmps83
    go_wp2_with fail
    refine (natCheck_any num _ z1).mono ?_
    rintro e w1 ⟨rfl, hb⟩
    rw [hn.out]
    have hK := hK0.out.below hb
    have c2 : w1.cell? ⟨w.heap.size, 2, none⟩ = some (.string den) := hK.cell 2
    have hB1 := hB0.out.trans (hb.mono (by simp))
    have hB1 := Lib.hid hB1
    clear hb hK
    go_wp2_with fail
    refine (natCheck_any den _ z2).mono ?_
    rintro e w2 ⟨rfl, hb⟩
    rw [hd.out]
    have hb := Lib.hid hb
    go_wp2
    go_ret
    exact ⟨by rw [hres.out]; rfl, hB1.out.trans (hb.out.mono hB1.out.size)⟩
  by_cases hd0 : den.size = 0
  · have hres : Hid (ratioMay neg num den = false) := Lib.hid (by
      have : be (sl den) = 0 := (be_zero hd).2 hd0
      simp [ratioMay, this])
    have t2 := isEmpty_of_size hd0
    have hn := Lib.hid hn
    have hd := Lib.hid hd
    clear hd0
    go_enter Tryz.func83, Tryz.ntmps83
    go_wp2_with fail
    refine (natCheck_any num _ z1).mono ?_
    rintro e w1 ⟨rfl, hb⟩
    rw [hn.out]
    have hK := hK0.out.below hb
    have c2 : w1.cell? ⟨w.heap.size, 2, none⟩ = some (.string den) := hK.cell 2
    have hB1 := hB0.out.trans (hb.mono (by simp))
    have hB1 := Lib.hid hB1
    clear hb
    have hK := Lib.hid hK
    go_wp2_with fail
    refine (natCheck_any den _ z2).mono ?_
    rintro e w2 ⟨rfl, hb⟩
    rw [hd.out]
    have c3 : w2.cell? ⟨w.heap.size, 2, none⟩ = some (.string den) := (hK.out.below hb).cell 2
    have hb := Lib.hid hb
    go_wp2
    go_ret
    exact ⟨by rw [hres.out]; rfl, hB1.out.trans (hb.out.mono hB1.out.size)⟩
  by_cases hn0 : num.size = 0
  · have e0 : be (sl num) = 0 := (be_zero hn).2 hn0
    have t1 := isEmpty_of_size hn0
    have t2 := isEmpty_of_size_ne hd0
    have hp : 0 < be (sl den) := by
      rcases Nat.eq_zero_or_pos (be (sl den)) with h | h
      · exact absurd ((be_zero hd).1 h) hd0
      · exact h
    have hres : Hid (ratioMay neg num den = (!neg && (den.toList == [1]))) := Lib.hid (by
      have h1 : (den.toList == [1]) = decide (be (sl den) = 1) := by
        by_cases h : be (sl den) = 1
        · rw [(be_one hd).1 h]; simp [h]
        · have : den.toList ≠ [1] := fun e => h ((be_one hd).2 e)
          simp [h, this]
      rw [h1]
      cases neg <;> simp [ratioMay, hn, hd, e0, hp])
    have hn := Lib.hid hn
    have hd := Lib.hid hd
    clear hd0 hn0 e0 hp
    cases neg
    · cases hden : (den.toList == [1])
      · have hden' := Lib.hid hden
        go_enter Tryz.func83, Tryz.ntmps83
        go_wp2_with fail
        refine (natCheck_any num _ z1).mono ?_
        rintro e w1 ⟨rfl, hb⟩
        rw [hn.out]
        have hK := hK0.out.below hb
        have c2 : w1.cell? ⟨w.heap.size, 2, none⟩ = some (.string den) := hK.cell 2
        have hB1 := Lib.hid (hB0.out.trans (hb.mono (by simp)))
        clear hb
        have hK := Lib.hid hK
        go_wp2_with fail
        refine (natCheck_any den _ z2).mono ?_
        rintro e w2 ⟨rfl, hb⟩
        rw [hd.out]
        have hK := hK.out.below hb
        have d0 : w2.cell? ⟨w.heap.size, 0, none⟩ = some (.bool false) := hK.cell 0
        have d1 : w2.cell? ⟨w.heap.size, 1, none⟩ = some (.string num) := hK.cell 1
        have d2 : w2.cell? ⟨w.heap.size, 2, none⟩ = some (.string den) := hK.cell 2
        have hb := Lib.hid hb
        clear hK c2
        go_wp2
        go_ret
        exact ⟨by rw [hres.out, hden'.out]; rfl, hB1.out.trans (hb.out.mono hB1.out.size)⟩
      · have hden' := Lib.hid hden
        go_enter Tryz.func83, Tryz.ntmps83
        go_wp2_with fail
        refine (natCheck_any num _ z1).mono ?_
        rintro e w1 ⟨rfl, hb⟩
        rw [hn.out]
        have hK := hK0.out.below hb
        have c2 : w1.cell? ⟨w.heap.size, 2, none⟩ = some (.string den) := hK.cell 2
        have hB1 := Lib.hid (hB0.out.trans (hb.mono (by simp)))
        clear hb
        have hK := Lib.hid hK
        go_wp2_with fail
        refine (natCheck_any den _ z2).mono ?_
        rintro e w2 ⟨rfl, hb⟩
        rw [hd.out]
        have hK := hK.out.below hb
        have d0 : w2.cell? ⟨w.heap.size, 0, none⟩ = some (.bool false) := hK.cell 0
        have d1 : w2.cell? ⟨w.heap.size, 1, none⟩ = some (.string num) := hK.cell 1
        have d2 : w2.cell? ⟨w.heap.size, 2, none⟩ = some (.string den) := hK.cell 2
        have hb := Lib.hid hb
        clear hK c2
        go_wp2
        go_ret
        exact ⟨by rw [hres.out, hden'.out]; rfl, hB1.out.trans (hb.out.mono hB1.out.size)⟩
    · go_enter Tryz.func83, Tryz.ntmps83
      go_wp2_with fail
      refine (natCheck_any num _ z1).mono ?_
      rintro e w1 ⟨rfl, hb⟩
      rw [hn.out]
      have hK := hK0.out.below hb
      have c2 : w1.cell? ⟨w.heap.size, 2, none⟩ = some (.string den) := hK.cell 2
      have hB1 := Lib.hid (hB0.out.trans (hb.mono (by simp)))
      clear hb
      have hK := Lib.hid hK
      go_wp2_with fail
      refine (natCheck_any den _ z2).mono ?_
      rintro e w2 ⟨rfl, hb⟩
      rw [hd.out]
      have hK := hK.out.below hb
      have d0 : w2.cell? ⟨w.heap.size, 0, none⟩ = some (.bool true) := hK.cell 0
      have d1 : w2.cell? ⟨w.heap.size, 1, none⟩ = some (.string num) := hK.cell 1
      have d2 : w2.cell? ⟨w.heap.size, 2, none⟩ = some (.string den) := hK.cell 2
      have hb := Lib.hid hb
      clear hK c2
      go_wp2
      go_ret
      exact ⟨by rw [hres.out]; rfl, hB1.out.trans (hb.out.mono hB1.out.size)⟩
  · exact ratMay_gcd neg num den w hn hd hn0 hd0
open Go.RowKit
def RetW (n : Nat) (w : World) (e : Ending) (w' : World) : Prop := e = .returned (.int .u64 (n : Int)) ∧ Dr w w'
set_option maxHeartbeats 400000 in
theorem agcd_any (a b : Nat) (w : World) (ha : a < 18446744073709551616) (hb : b < 18446744073709551616) :
    Calls Tryz.prog 116 #[.int .u64 a, .int .u64 b] w (RetW (Nat.gcd a b) w) := by
  go_enter Tryz.func116, Tryz.ntmps116
  go_wp2
  go_loopw [0, 1] (fun x y wr => ∃ p q : Nat, x = .int .u64 p ∧ y = .int .u64 q ∧ Nat.gcd p q = Nat.gcd a b ∧ p < 18446744073709551616 ∧ q < 18446744073709551616 ∧ Dr w wr) (fun _ y _ => (intOf y).toNat)
  case atStart => exact ⟨a, b, rfl, rfl, rfl, ha, hb, Dr.refl _⟩
  case round =>
    obtain ⟨p, q, rfl, rfl, hg, hp, hq, n, rfl⟩ := hrel
    have Hg := Lib.hid hg
    clear hg
    by_cases hz : q = 0
    · subst hz
      go_wp2
      go_ret
      exact ⟨by rw [← Hg.out, Nat.gcd_zero_right]; rfl, (Dr.refl _).drewN _⟩
    · have hz1 : 0 < q := by omega
      have hm := Nat.mod_lt p hz1
      obtain ⟨r, hr⟩ : ∃ r, r = p % q := ⟨_, rfl⟩
      have hri : (p : Int) % (q : Int) = (r : Int) := by rw [hr]; rfl
      rw [← hr] at hm
      have HR : Hid (Nat.gcd q r = Nat.gcd a b) := Lib.hid (by rw [← Hg.out, hr, Nat.gcd_comm q, ← Nat.gcd_rec, Nat.gcd_comm])
      clear hz hr
      go_wp2
      go_quiet (fail)
      go_wp2
      go_roundw
      case rel => exact ⟨q, r, rfl, by rw [hri], HR.out, hq, by omega, by repeat (first | exact Dr.refl _ | apply Dr.drewN)⟩
      case measure => simp [intOf]; omega
def RetPart (n d : Nat) (w : World) (e : Ending) (w' : World) : Prop := e = .returned (.agg #[.int .u64 (n : Int), .int .u64 (d : Int)]) ∧ Below w.heap.size w w'
set_option maxHeartbeats 400000 in
theorem lowest_any (a b n d : Nat) (w : World) (ha : a < 18446744073709551616) (hb : b < 18446744073709551616) (h0 : 0 < b) (hn : Hid (n = a / Nat.gcd a b)) (hd : Hid (d = b / Nat.gcd a b)) :
    Calls Tryz.prog 78 #[.int .u64 a, .int .u64 b] w (RetPart n d w) := by
  obtain ⟨g, hg⟩ : ∃ g, g = Nat.gcd a b := ⟨_, rfl⟩
  have hg0 : 0 < g := by rw [hg]; exact Nat.gcd_pos_of_pos_right _ h0
  have hgs : g < 18446744073709551616 := by rw [hg]; exact Nat.lt_of_le_of_lt (Nat.gcd_le_right _ h0) hb
  have e1 : (a : Int) / (g : Int) = (n : Int) := by rw [hn.out, hg]; rfl
  have e2 : (b : Int) / (g : Int) = (d : Int) := by rw [hd.out, hg]; rfl
  have hns : n < 18446744073709551616 := by rw [hn.out]; exact Nat.lt_of_le_of_lt (Nat.div_le_self _ _) ha
  have hds : d < 18446744073709551616 := by rw [hd.out]; exact Nat.lt_of_le_of_lt (Nat.div_le_self _ _) hb
  have Hg := Lib.hid hg
  clear hg
  go_enter Tryz.func78, Tryz.ntmps78
  go_wp2_with fail
  refine (agcd_any a b _ ha hb).mono ?_
  rintro e w1 ⟨rfl, hdr⟩
  rw [← Hg.out]
  have hK := Blk.dr hdr (Blk.new w 144 #[.int .u64 0, .int .u64 0])
  have hB := below_dr hdr ((Below.refl w.heap.size w).alloc (Nat.le_refl _) (.cells #[.int .u64 0, .int .u64 0] 144))
  have k0 := hK.cell 0
  have k1 := hK.cell 1
  have f0 := hK.frozen 0
  have f1 := hK.frozen 1
  simp at k0 k1
  have hB := Lib.hid hB
  have hK := Lib.hid hK
  clear hdr
  go_wp2
  go_region
  go_wp2
  refine bodyPost_ret (v := .agg #[.int .u64 (n : Int), .int .u64 (d : Int)]) (by simp [results, Tryz.results78, go_sem, k0, k1]) rfl ⟨rfl, ?_⟩
  exact ((hB.out.setCell (p := ⟨w.heap.size, 0, none⟩) (Nat.le_refl _) _).setCell (p := ⟨w.heap.size, 1, none⟩) (Nat.le_refl _) _).drew
open Go.RowKit
def roundB (d : Int) : Bool := decide (2 ≤ d) && decide (d ≤ 64)
theorem roundB_iff {d : Int} : roundB d = true ↔ 2 ≤ d ∧ d ≤ 64 := by simp [roundB]
theorem aturns_any (d : Int) (w : World) : Calls Tryz.prog 142 #[.int .i64 d] w fun e w' => e = .returned (.bool (roundB d)) ∧ w = w' := by
  by_cases h : 2 ≤ d
  · by_cases h2 : d ≤ 64
    · have HB : Hid (roundB d = true) := Lib.hid (roundB_iff.2 ⟨h, h2⟩)
      go_enter Tryz.func142, Tryz.ntmps142
      go_wp2
      go_ret
      exact ⟨by rw [HB.out]; rfl, rfl⟩
    · have HB : Hid (roundB d = false) := Lib.hid (by simp [roundB]; omega)
      have h2' : decide (d ≤ 64) = false := by simp; omega
      go_enter Tryz.func142, Tryz.ntmps142
      go_wp2
      go_ret
      exact ⟨by rw [HB.out]; rfl, rfl⟩
  · have HB : Hid (roundB d = false) := Lib.hid (by simp [roundB]; omega)
    have h' : decide (2 ≤ d) = false := by simp; omega
    go_enter Tryz.func142, Tryz.ntmps142
    go_wp2
    go_ret
    exact ⟨by rw [HB.out]; rfl, rfl⟩
theorem and_one_i64 (n : Nat) (h : n < 9223372036854775808) : bits .and .i64 (n : Int) 1 = ((n % 2 : Nat) : Int) := by
  have e1 : (BitVec.ofInt 64 (n : Int)).toNat = n := by
    rw [BitVec.ofInt_natCast, BitVec.toNat_ofNat]
    exact Nat.mod_eq_of_lt (by omega)
  show IntKind.i64.wrap ((BitVec.ofInt 64 (n : Int) &&& BitVec.ofInt 64 1).toNat : Int) = _
  rw [BitVec.toNat_and, e1, show (BitVec.ofInt 64 1).toNat = 1 by decide, Nat.and_one_is_mod, IntKind.wrap_i64]
  omega
theorem pow_step_even (x y n m : Nat) : x * y ^ (2 * n) % m = x * (y * y % m) ^ n % m := by
  rw [Nat.pow_mul, Nat.mul_mod, Nat.mul_mod x ((y * y % m) ^ n), Nat.pow_mod (y * y % m), Nat.mod_mod, ← Nat.pow_mod, Nat.pow_two]
theorem pow_step_odd (x y n m : Nat) : x * y ^ (2 * n + 1) % m = x * y % m * (y * y % m) ^ n % m := by
  have e : x * y ^ (2 * n + 1) = x * y * y ^ (2 * n) := by rw [Nat.pow_succ]; ac_rfl
  rw [e, pow_step_even]
  have h1 := Nat.mul_mod (x * y) ((y * y % m) ^ n) m
  have h2 := Nat.mul_mod (x * y % m) ((y * y % m) ^ n) m
  rw [Nat.mod_mod] at h2
  exact h1.trans h2.symm
set_option maxHeartbeats 400000 in
theorem power_any (d n m : Nat) (w : World) (hn : n < 9223372036854775808) (hm0 : 0 < m) (hm : m < 4294967296) :
    Calls Tryz.prog 194 #[.int .u64 (d : Int), .int .i64 (n : Int), .int .u64 (m : Int)] w (RetW (d ^ n % m) w) := by
  obtain ⟨x0, hx0⟩ : ∃ x0, x0 = 1 % m := ⟨_, rfl⟩
  obtain ⟨y0, hy0⟩ : ∃ y0, y0 = d % m := ⟨_, rfl⟩
  have e1 : (1 : Int).tmod (m : Int) = (x0 : Int) := by rw [hx0]; exact tmod_nat 1 m
  have e1' : (1 : Int) % (m : Int) = (x0 : Int) := by rw [hx0]; rfl
  have e2 : (d : Int).tmod (m : Int) = (y0 : Int) := by rw [hy0]; exact tmod_nat d m
  have e2' : (d : Int) % (m : Int) = (y0 : Int) := by rw [hy0]; rfl
  have hxm : x0 < m := by rw [hx0]; exact Nat.mod_lt _ hm0
  have hym : y0 < m := by rw [hy0]; exact Nat.mod_lt _ hm0
  have H0 : Hid (x0 * y0 ^ n % m = d ^ n % m) := Lib.hid (by rw [hx0, hy0, Nat.mul_mod, Nat.mod_mod, ← Nat.pow_mod, ← Nat.mul_mod, Nat.one_mul])
  clear hx0 hy0
  go_enter Tryz.func194, Tryz.ntmps194
  go_wp2
  go_quiet (fail)
  go_wp2
  go_loopw [1, 7, 8] (fun k x y wr => ∃ K X Y : Nat, k = .int .i64 (K : Int) ∧ x = .int .u64 (X : Int) ∧ y = .int .u64 (Y : Int) ∧ K < 9223372036854775808 ∧ X < m ∧ Y < m ∧ X * Y ^ K % m = d ^ n % m ∧ Dr w wr) (fun k _ _ _ => (intOf k).toNat)
  case atStart => exact ⟨n, x0, y0, rfl, by first | rfl | rw [e1'], by first | rfl | rw [e2'], hn, hxm, hym, H0.out, by repeat (first | exact Dr.refl _ | apply Dr.drewN)⟩
  case round =>
    obtain ⟨K, X, Y, rfl, rfl, rfl, hK, hX, hY, hv, nn, rfl⟩ := hrel
    have HV := Lib.hid hv
    clear hv e1 e1' e2 e2'
    by_cases h0 : 0 < K
    · have hXY : X * Y < 18446744073709551616 := Nat.lt_of_le_of_lt (Nat.mul_le_mul (show X ≤ 4294967295 by omega) (show Y ≤ 4294967295 by omega)) (by omega)
      have hYY : Y * Y < 18446744073709551616 := Nat.lt_of_le_of_lt (Nat.mul_le_mul (show Y ≤ 4294967295 by omega) (show Y ≤ 4294967295 by omega)) (by omega)
      obtain ⟨P, hP⟩ : ∃ P, P = X * Y := ⟨_, rfl⟩
      have hPi : (X : Int) * (Y : Int) = (P : Int) := by rw [hP]; push_cast; rfl
      obtain ⟨S, hS⟩ : ∃ S, S = Y * Y := ⟨_, rfl⟩
      have hSi : (Y : Int) * (Y : Int) = (S : Int) := by rw [hS]; push_cast; rfl
      obtain ⟨p, hp⟩ : ∃ p, p = P % m := ⟨_, rfl⟩
      have hpi : (P : Int).tmod (m : Int) = (p : Int) := by rw [hp]; exact tmod_nat P m
      have hpi' : (P : Int) % (m : Int) = (p : Int) := by rw [hp]; rfl
      obtain ⟨s, hs⟩ : ∃ s, s = S % m := ⟨_, rfl⟩
      have hsi : (S : Int).tmod (m : Int) = (s : Int) := by rw [hs]; exact tmod_nat S m
      have hsi' : (S : Int) % (m : Int) = (s : Int) := by rw [hs]; rfl
      have hpm : p < m := by rw [hp]; exact Nat.mod_lt _ hm0
      have hsm : s < m := by rw [hs]; exact Nat.mod_lt _ hm0
      obtain ⟨k2, hk2⟩ : ∃ k2, k2 = K / 2 := ⟨_, rfl⟩
      have hk2i : (K : Int) / 2 = (k2 : Int) := by omega
      have hand := and_one_i64 K hK
      rw [← hP] at hXY
      rw [← hS] at hYY
      rcases Nat.mod_two_eq_zero_or_one K with hpar | hpar
      · rw [hpar] at hand
        have hand : bits .and .i64 (K : Int) 1 = 0 := hand
        have HN : Hid (X * s ^ k2 % m = d ^ n % m) := Lib.hid (by
          rw [← HV.out, hs, hS, ← pow_step_even, show 2 * k2 = K by omega])
        clear hP hS hp hs hk2
        have hKp : (0 : Int) < (K : Int) := by omega
        go_wp2
        go_roundw
        case rel => exact ⟨k2, X, s, by first | rfl | rw [hk2i], rfl, rfl, by omega, hX, hsm, HN.out, by repeat (first | exact Dr.refl _ | apply Dr.drewN)⟩
        case measure => simp [intOf]; omega
      · rw [hpar] at hand
        have hand : bits .and .i64 (K : Int) 1 = 1 := hand
        have HN : Hid (p * s ^ k2 % m = d ^ n % m) := Lib.hid (by
          rw [← HV.out, hs, hS, hp, hP, ← pow_step_odd, show 2 * k2 + 1 = K by omega])
        clear hP hS hp hs hk2
        have hKp : (0 : Int) < (K : Int) := by omega
        go_wp2
        go_roundw
        case rel => exact ⟨k2, p, s, by first | rfl | rw [hk2i], rfl, rfl, by omega, hpm, hsm, HN.out, by repeat (first | exact Dr.refl _ | apply Dr.drewN)⟩
        case measure => simp [intOf]; omega
    · obtain rfl : K = 0 := by omega
      have HN : Hid (X = d ^ n % m) := Lib.hid (by have := HV.out; rwa [Nat.pow_zero, Nat.mul_one, Nat.mod_eq_of_lt hX] at this)
      go_wp2
      go_ret
      exact ⟨by rw [← HN.out]; rfl, by repeat (first | exact Dr.refl _ | apply Dr.drewN)⟩
open Go.RowKit
set_option maxHeartbeats 400000 in
theorem div64_any (lo y : Nat) (w : World) (hlo : lo < 18446744073709551616) (hy : y < 18446744073709551616) (h0 : 0 < y) :
    Calls Tryz.prog 205 #[.int .u64 0, .int .u64 (lo : Int), .int .u64 (y : Int)] w fun e w' => e = .returned (.tuple #[.int .u64 ((lo / y : Nat) : Int), .int .u64 ((lo % y : Nat) : Int)]) ∧ Dr w w' := by
  have t1 : ((y : Int) == 0) = false := by simp; omega
  have t2 : ¬ (y : Int) ≤ 0 := by omega
  obtain ⟨q, hq⟩ : ∃ q, q = lo / y := ⟨_, rfl⟩
  obtain ⟨r, hr⟩ : ∃ r, r = lo % y := ⟨_, rfl⟩
  rw [← hq, ← hr]
  have e1 : (lo : Int) / (y : Int) = (q : Int) := by rw [hq]; rfl
  have e2 : (lo : Int) % (y : Int) = (r : Int) := by rw [hr]; rfl
  have hqs : q < 18446744073709551616 := by rw [hq]; exact Nat.lt_of_le_of_lt (Nat.div_le_self _ _) hlo
  clear hq hr
  go_enter Tryz.func205, Tryz.ntmps205
  go_wp2
  go_region
  go_wp2
  go_ret2
  exact ⟨by simp; exact e2, (Dr.refl _).drewN 1⟩
set_option maxHeartbeats 400000 in
theorem rem64_any (lo y : Nat) (w : World) (hlo : lo < 18446744073709551616) (hy : y < 18446744073709551616) (h0 : 0 < y) :
    Calls Tryz.prog 175 #[.int .u64 0, .int .u64 (lo : Int), .int .u64 (y : Int)] w (RetW (lo % y) w) := by
  have hyI : (1 : Int) ≤ (y : Int) := by omega
  obtain ⟨q, hq⟩ : ∃ q, q = lo / y := ⟨_, rfl⟩
  obtain ⟨r, hr⟩ : ∃ r, r = lo % y := ⟨_, rfl⟩
  replace hq := Lib.hid hq
  replace hr := Lib.hid hr
  go_enter Tryz.func175, Tryz.ntmps175
  go_wp2_with fail
  refine (div64_any lo y _ hlo hy h0).mono ?_
  rintro e w1 ⟨rfl, n1, rfl⟩
  rw [← hq.out, ← hr.out]
  go_wp2
  go_ret
  exact ⟨by rw [← hr.out]; rfl, (Dr.refl _).drewN n1⟩
theorem mul64_any (x y S : Nat) (hS : Hid (S = x * y)) (hx : x < 18446744073709551616) (hy : y < 18446744073709551616) (hs : S < 18446744073709551616) (w : World) :
    Calls Tryz.prog 174 #[.int .u64 (x : Int), .int .u64 (y : Int)] w fun e w' => e = .returned (.tuple #[.int .u64 0, .int .u64 (S : Int)]) ∧ w = w' := by
  refine (Tryz.bits_Mul64 x y hx hy w).mono ?_
  rintro e w' ⟨rfl, rfl⟩
  rw [← hS.out, Nat.div_eq_of_lt hs, Nat.mod_eq_of_lt hs]
  exact ⟨rfl, rfl⟩
set_option maxRecDepth 100000 in
set_option maxHeartbeats 400000 in
theorem turn_any (a b y x n d : Nat) (w : World) (hb0 : 0 < b) (ha : a < 4294967296) (hb : b < 4294967296) (hy : y < 4294967296) (hx : Hid (x = a * y % b)) (hn : Hid (n = x / Nat.gcd x b)) (hd : Hid (d = b / Nat.gcd x b)) :
    Calls Tryz.prog 145 #[.agg #[.int .u64 (a : Int), .int .u64 (b : Int)], .int .u64 (y : Int)] w (RetPart n d w) := by
  obtain ⟨S, hS⟩ : ∃ S, S = a * y := ⟨_, rfl⟩
  have hSs : S < 18446744073709551616 := by rw [hS]; exact Nat.lt_of_le_of_lt (Nat.mul_le_mul (show a ≤ 4294967295 by omega) (show y ≤ 4294967295 by omega)) (by omega)
  replace hS := Lib.hid hS
  have hxS : Hid (S % b = x) := Lib.hid (by rw [hS.out, hx.out])
  have hxb : x < b := by rw [← hxS.out]; exact Nat.mod_lt _ hb0
  go_enter Tryz.func145, Tryz.ntmps145
  go_wp2_with fail
  refine (mul64_any a y S hS (by omega) (by omega) hSs _).mono ?_
  rintro e w1 ⟨rfl, rfl⟩
  go_wp2_with fail
  have hK1 := (Blk.new w 144 #[.int .u64 (a : Int), .int .u64 (b : Int)]).alloc (.cells #[.int .u64 0, .int .u64 0] 144)
  have hK2 := Blk.new (w.alloc (.cells #[.int .u64 (a : Int), .int .u64 (b : Int)] 144)) 144 #[.int .u64 0, .int .u64 0]
  have hBW : Below w.heap.size w ((w.alloc (.cells #[.int .u64 (a : Int), .int .u64 (b : Int)] 144)).alloc (.cells #[.int .u64 0, .int .u64 0] 144)) := ((Below.refl _ w).alloc (Nat.le_refl _) _).alloc (by simp) _
  have hsz : (w.alloc (.cells #[.int .u64 (a : Int), .int .u64 (b : Int)] 144)).heap.size = w.heap.size + 1 := by simp
  rw [hsz] at hK2
  replace hK1 := Lib.hid hK1
  replace hK2 := Lib.hid hK2
  replace hBW := Lib.hid hBW
  clear hsz
  go_region_held3 (fun w' => w'.cell? ⟨w.heap.size, 1, none⟩ = some (.int .u64 (b : Int))) (go_keep)
    (first
      | (go_at_call 175; refine (rem64_any S b _ hSs (by omega) hb0).mono ?_; rintro e w2 ⟨rfl, n2, rfl⟩; rw [hxS.out])
      | (go_at_call 78; refine (lowest_any x b n d _ (by omega) (by omega) hb0 hn hd).mono ?_; rintro e w3 ⟨rfl, hB⟩; have q1 := Blk.below (Blk.drewN hK1.out _) hB; have q2 := Blk.below (Blk.drewN hK2.out _) hB; have hBw : Below w.heap.size w w3 := (below_drewN hBW.out _).trans (hB.mono (by simp; omega)); have k1 : w3.cell? ⟨w.heap.size, 1, none⟩ = some (.int .u64 (b : Int)) := q1.cell 1; have k2 : w3.cell? ⟨w.heap.size + 1, 0, none⟩ = some (.int .u64 0) := q2.cell 0; have k3 : w3.cell? ⟨w.heap.size + 1, 1, none⟩ = some (.int .u64 0) := q2.cell 1; have k4 := q2.frozen 0; have k5 := q2.frozen 1; replace hBw := Lib.hid hBw; clear q1 q2 hB))
  go_wp2
  refine bodyPost_ret (v := .agg #[.int .u64 (n : Int), .int .u64 (d : Int)]) (by simp [results, Tryz.results145, go_sem, k2, k3]) rfl ⟨rfl, ?_⟩
  exact (hBw.out.setCell (p := ⟨w.heap.size + 1, 0, none⟩) (by simp) _).setCell (p := ⟨w.heap.size + 1, 1, none⟩) (by simp) _
open Go.RowKit
def ratV (n d : Nat) : Value := .agg #[.bool false, .string (natS n), .string (natS d)]
set_option maxRecDepth 100000 in
set_option maxHeartbeats 400000 in
theorem ratioOf_any (n d : Nat) (w : World) (hn : n < 18446744073709551616) (hd : d < 18446744073709551616) :
    Calls Tryz.prog 115 #[.agg #[.int .u64 (n : Int), .int .u64 (d : Int)]] w (RetVal (ratV n d) w) := by
  go_enter Tryz.func115, Tryz.ntmps115
  go_wp2_with fail
  have hK1 := (Blk.new w 144 #[.int .u64 (n : Int), .int .u64 (d : Int)]).alloc (.cells #[.bool false, .string ⟨#[]⟩, .string ⟨#[]⟩] 26)
  have hK2 := Blk.new (w.alloc (.cells #[.int .u64 (n : Int), .int .u64 (d : Int)] 144)) 26 #[.bool false, .string ⟨#[]⟩, .string ⟨#[]⟩]
  have hBW : Below w.heap.size w ((w.alloc (.cells #[.int .u64 (n : Int), .int .u64 (d : Int)] 144)).alloc (.cells #[.bool false, .string ⟨#[]⟩, .string ⟨#[]⟩] 26)) := ((Below.refl _ w).alloc (Nat.le_refl _) _).alloc (by simp) _
  have hsz : (w.alloc (.cells #[.int .u64 (n : Int), .int .u64 (d : Int)] 144)).heap.size = w.heap.size + 1 := by simp
  rw [hsz] at hK2
  replace hK1 := Lib.hid hK1
  replace hK2 := Lib.hid hK2
  replace hBW := Lib.hid hBW
  clear hsz
  go_region_held3 (fun w' => w'.cell? ⟨w.heap.size, 0, none⟩ = some (.int .u64 (n : Int)) ∧ w'.cell? ⟨w.heap.size, 1, none⟩ = some (.int .u64 (d : Int))) (go_keep)
    (first
      | (go_at_call_of 156 (Value.int .u64 (n : Int)); refine (natOf_any n _ hn).mono ?_; rintro e w3 ⟨rfl, hB⟩; have q1 := Blk.below (Blk.drew hK1.out) hB; have q2 := Blk.below (Blk.drew hK2.out) hB; have hBw : Below w.heap.size w w3 := hBW.out.drew.trans (hB.mono (by simp; omega)); have k1 : w3.cell? ⟨w.heap.size, 0, none⟩ = some (.int .u64 (n : Int)) := q1.cell 0; have k2 : w3.cell? ⟨w.heap.size, 1, none⟩ = some (.int .u64 (d : Int)) := q1.cell 1; replace hBw := Lib.hid hBw; replace q1 := Lib.hid q1; replace q2 := Lib.hid q2; clear hB)
      | (go_at_call_of 156 (Value.int .u64 (d : Int)); refine (natOf_any d _ hd).mono ?_; rintro e w4 ⟨rfl, hB⟩; have r1 := Blk.below q1.out hB; have r2 := Blk.below q2.out hB; have hBx : Below w.heap.size w w4 := hBw.out.trans (hB.mono hBw.out.size); have j1 : w4.cell? ⟨w.heap.size, 0, none⟩ = some (.int .u64 (n : Int)) := r1.cell 0; have j2 : w4.cell? ⟨w.heap.size, 1, none⟩ = some (.int .u64 (d : Int)) := r1.cell 1; have i0 : w4.cell? ⟨w.heap.size + 1, 0, none⟩ = some (.bool false) := r2.cell 0; have i1 : w4.cell? ⟨w.heap.size + 1, 1, none⟩ = some (.string ⟨#[]⟩) := r2.cell 1; have i2 : w4.cell? ⟨w.heap.size + 1, 2, none⟩ = some (.string ⟨#[]⟩) := r2.cell 2; have f0 := r2.frozen 0; have f1 := r2.frozen 1; have f2 := r2.frozen 2; replace hBx := Lib.hid hBx; clear r1 r2 hB))
  all_goals
    go_wp2
    refine bodyPost_ret (v := .agg #[.bool false, .string (natS n), .string (natS d)]) (by simp [results, Tryz.results115, go_sem, i0, i1, i2]) rfl ⟨rfl, ?_⟩
    exact ((hBx.out.setCell (p := ⟨w.heap.size + 1, 0, none⟩) (by simp) _).setCell (p := ⟨w.heap.size + 1, 1, none⟩) (by simp) _).setCell (p := ⟨w.heap.size + 1, 2, none⟩) (by simp) _
open Go.RowKit
def okA (neg : Bool) (num den : ByteArray) : Bool :=
  ratioMay neg num den && !neg && smallB num && smallB den && decide (be (sl num) < be (sl den)) && decide (be (sl den) ≤ 2147483647)
def smallV (neg : Bool) (num den : ByteArray) : Value :=
  .tuple #[.agg #[.int .u64 ((if okA neg num den then be (sl num) else 0 : Nat) : Int), .int .u64 ((if okA neg num den then be (sl den) else 0 : Nat) : Int)], .bool (okA neg num den)]
theorem smallV_no {neg : Bool} {num den : ByteArray} (h : okA neg num den = false) : smallV neg num den = .tuple #[.agg #[.int .u64 0, .int .u64 0], .bool false] := by simp [smallV, h]
theorem smallV_yes {neg : Bool} {num den : ByteArray} (h : okA neg num den = true) : smallV neg num den = .tuple #[.agg #[.int .u64 ((be (sl num) : Nat) : Int), .int .u64 ((be (sl den) : Nat) : Int)], .bool true] := by simp [smallV, h]
theorem be_small {s : ByteArray} (h : smallB s = true) : be (sl s) < 18446744073709551616 := by
  simp [smallB] at h
  have h1 := be_lt (sl_lt s)
  rw [sl_len] at h1
  exact Nat.lt_of_lt_of_le h1 (Nat.le_trans (Nat.pow_le_pow_right (by omega) h.2) (by omega))
theorem natSmall_yes (s : ByteArray) (x : Nat) (w : World) (hs : s.size ≤ 9223372036854775807) (h : smallB s = true) (hx : Hid (x = be (sl s))) :
    Calls Tryz.prog 133 #[.string s] w (RetVal (.tuple #[.int .u64 (x : Int), .bool true]) w) := by
  refine (natSmall_any s w hs).mono ?_
  rintro e w' ⟨rfl, hb⟩
  rw [h, if_pos rfl, ← hx.out]
  exact ⟨rfl, hb⟩
theorem natSmall_no (s : ByteArray) (w : World) (hs : s.size ≤ 9223372036854775807) (h : smallB s = false) :
    Calls Tryz.prog 133 #[.string s] w (RetVal (.tuple #[.int .u64 0, .bool false]) w) := by
  refine (natSmall_any s w hs).mono ?_
  rintro e w' ⟨rfl, hb⟩
  rw [h, if_neg (by decide)]
  exact ⟨rfl, hb⟩
set_option maxRecDepth 100000 in
set_option maxHeartbeats 1000000 in
theorem small_any (neg : Bool) (num den : ByteArray) (w : World) (z1 : num.size ≤ 9223372036854775807) (z2 : den.size ≤ 9223372036854775807) :
    Calls Tryz.prog 87 #[.agg #[.bool neg, .string num, .string den]] w (RetVal (smallV neg num den) w) := by
  have hK1 := (Blk.new w 26 #[.bool neg, .string num, .string den]).alloc (.cells #[.int .u64 0, .int .u64 0] 144)
  have hK2 := Blk.new (w.alloc (.cells #[.bool neg, .string num, .string den] 26)) 144 #[.int .u64 0, .int .u64 0]
  have hBW : Below w.heap.size w ((w.alloc (.cells #[.bool neg, .string num, .string den] 26)).alloc (.cells #[.int .u64 0, .int .u64 0] 144)) := ((Below.refl _ w).alloc (Nat.le_refl _) _).alloc (by simp) _
  rw [show (w.alloc (.cells #[.bool neg, .string num, .string den] 26)).heap.size = w.heap.size + 1 by simp] at hK2
  replace hK1 := Lib.hid hK1
  replace hK2 := Lib.hid hK2
  replace hBW := Lib.hid hBW
  cases hm : ratioMay neg num den
  · have hv : Hid (smallV neg num den = .tuple #[.agg #[.int .u64 0, .int .u64 0], .bool false]) := Lib.hid (smallV_no (by simp [okA, hm]))
    replace hm := Lib.hid hm
    go_enter Tryz.func87, Tryz.ntmps87
    go_wp2_with fail
    refine (ratMay_any neg num den _ z1 z2).mono ?_
    rintro e w1 ⟨rfl, hb⟩
    rw [hm.out]
    have q1 := Blk.below hK1.out hb
    have q2 := Blk.below hK2.out hb
    have hB1 := hBW.out.trans (hb.mono (by simp; omega))
    have c0 : w1.cell? ⟨w.heap.size, 0, none⟩ = some (.bool neg) := q1.cell 0
    have c1 : w1.cell? ⟨w.heap.size, 1, none⟩ = some (.string num) := q1.cell 1
    have c2 : w1.cell? ⟨w.heap.size, 2, none⟩ = some (.string den) := q1.cell 2
    have p0 : w1.cell? ⟨w.heap.size + 1, 0, none⟩ = some (.int .u64 0) := q2.cell 0
    have p1 : w1.cell? ⟨w.heap.size + 1, 1, none⟩ = some (.int .u64 0) := q2.cell 1
    have f0 := q2.frozen 0
    have f1 := q2.frozen 1
    replace hB1 := Lib.hid hB1
    replace q1 := Lib.hid q1
    replace q2 := Lib.hid q2
    clear hb
    go_wp2
    refine bodyPost_ret (v := .tuple #[.agg #[.int .u64 0, .int .u64 0], .bool false]) (by simp [results, Tryz.results87, go_sem, p0, p1]) rfl ⟨by rw [hv.out], ?_⟩
    exact (hB1.out.setCell (p := ⟨w.heap.size + 1, 0, none⟩) (by simp) _).setCell (p := ⟨w.heap.size + 1, 1, none⟩) (by simp) _
  cases neg
  rotate_left
  · have hv : Hid (smallV true num den = .tuple #[.agg #[.int .u64 0, .int .u64 0], .bool false]) := Lib.hid (smallV_no (by simp [okA]))
    replace hm := Lib.hid hm
    go_enter Tryz.func87, Tryz.ntmps87
    go_wp2_with fail
    refine (ratMay_any true num den _ z1 z2).mono ?_
    rintro e w1 ⟨rfl, hb⟩
    rw [hm.out]
    have q1 := Blk.below hK1.out hb
    have q2 := Blk.below hK2.out hb
    have hB1 := hBW.out.trans (hb.mono (by simp; omega))
    have c0 : w1.cell? ⟨w.heap.size, 0, none⟩ = some (.bool true) := q1.cell 0
    have c1 : w1.cell? ⟨w.heap.size, 1, none⟩ = some (.string num) := q1.cell 1
    have c2 : w1.cell? ⟨w.heap.size, 2, none⟩ = some (.string den) := q1.cell 2
    have p0 : w1.cell? ⟨w.heap.size + 1, 0, none⟩ = some (.int .u64 0) := q2.cell 0
    have p1 : w1.cell? ⟨w.heap.size + 1, 1, none⟩ = some (.int .u64 0) := q2.cell 1
    have f0 := q2.frozen 0
    have f1 := q2.frozen 1
    replace hB1 := Lib.hid hB1
    replace q1 := Lib.hid q1
    replace q2 := Lib.hid q2
    clear hb
    go_wp2
    refine bodyPost_ret (v := .tuple #[.agg #[.int .u64 0, .int .u64 0], .bool false]) (by simp [results, Tryz.results87, go_sem, p0, p1]) rfl ⟨by rw [hv.out], ?_⟩
    exact (hB1.out.setCell (p := ⟨w.heap.size + 1, 0, none⟩) (by simp) _).setCell (p := ⟨w.heap.size + 1, 1, none⟩) (by simp) _
  cases hs1 : smallB num
  · have hv : Hid (smallV false num den = .tuple #[.agg #[.int .u64 0, .int .u64 0], .bool false]) := Lib.hid (smallV_no (by simp [okA, hs1]))
    cases hs2 : smallB den
    · replace hm := Lib.hid hm
      replace hs1 := Lib.hid hs1
      replace hs2 := Lib.hid hs2
      go_enter Tryz.func87, Tryz.ntmps87
      go_wp2_with fail
      refine (ratMay_any false num den _ z1 z2).mono ?_
      rintro e w1 ⟨rfl, hb⟩
      rw [hm.out]
      have q1 := Blk.below hK1.out hb
      have q2 := Blk.below hK2.out hb
      have hB1 := hBW.out.trans (hb.mono (by simp; omega))
      have c0 : w1.cell? ⟨w.heap.size, 0, none⟩ = some (.bool false) := q1.cell 0
      have c1 : w1.cell? ⟨w.heap.size, 1, none⟩ = some (.string num) := q1.cell 1
      have c2 : w1.cell? ⟨w.heap.size, 2, none⟩ = some (.string den) := q1.cell 2
      have p0 : w1.cell? ⟨w.heap.size + 1, 0, none⟩ = some (.int .u64 0) := q2.cell 0
      have p1 : w1.cell? ⟨w.heap.size + 1, 1, none⟩ = some (.int .u64 0) := q2.cell 1
      have f0 := q2.frozen 0
      have f1 := q2.frozen 1
      replace hB1 := Lib.hid hB1
      replace q1 := Lib.hid q1
      replace q2 := Lib.hid q2
      clear hb
      go_wp2_with fail
      refine (natSmall_no num _ z1 hs1.out).mono ?_
      rintro e w2 ⟨rfl, hb⟩
      have r1 := Blk.below q1.out hb
      have r2 := Blk.below q2.out hb
      have hB2 := hB1.out.trans (hb.mono hB1.out.size)
      clear c0 c1 c2 p0 p1 f0 f1 hB1 q1 q2 hb
      have c0 : w2.cell? ⟨w.heap.size, 0, none⟩ = some (.bool false) := r1.cell 0
      have c1 : w2.cell? ⟨w.heap.size, 1, none⟩ = some (.string num) := r1.cell 1
      have c2 : w2.cell? ⟨w.heap.size, 2, none⟩ = some (.string den) := r1.cell 2
      have p0 : w2.cell? ⟨w.heap.size + 1, 0, none⟩ = some (.int .u64 0) := r2.cell 0
      have p1 : w2.cell? ⟨w.heap.size + 1, 1, none⟩ = some (.int .u64 0) := r2.cell 1
      have f0 := r2.frozen 0
      have f1 := r2.frozen 1
      have hB1 := Lib.hid hB2
      have q1 := Lib.hid r1
      have q2 := Lib.hid r2
      clear hB2 r1 r2
      go_wp2_with fail
      refine (natSmall_no den _ z2 hs2.out).mono ?_
      rintro e w3 ⟨rfl, hb⟩
      have r1 := Blk.below q1.out hb
      have r2 := Blk.below q2.out hb
      have hB2 := hB1.out.trans (hb.mono hB1.out.size)
      clear c0 c1 c2 p0 p1 f0 f1 hB1 q1 q2 hb
      have c0 : w3.cell? ⟨w.heap.size, 0, none⟩ = some (.bool false) := r1.cell 0
      have c1 : w3.cell? ⟨w.heap.size, 1, none⟩ = some (.string num) := r1.cell 1
      have c2 : w3.cell? ⟨w.heap.size, 2, none⟩ = some (.string den) := r1.cell 2
      have p0 : w3.cell? ⟨w.heap.size + 1, 0, none⟩ = some (.int .u64 0) := r2.cell 0
      have p1 : w3.cell? ⟨w.heap.size + 1, 1, none⟩ = some (.int .u64 0) := r2.cell 1
      have f0 := r2.frozen 0
      have f1 := r2.frozen 1
      have hB1 := Lib.hid hB2
      have q1 := Lib.hid r1
      have q2 := Lib.hid r2
      clear hB2 r1 r2
      go_wp2
      refine bodyPost_ret (v := .tuple #[.agg #[.int .u64 0, .int .u64 0], .bool false]) (by simp [results, Tryz.results87, go_sem, p0, p1]) rfl ⟨by rw [hv.out], ?_⟩
      exact (hB1.out.setCell (p := ⟨w.heap.size + 1, 0, none⟩) (by simp) _).setCell (p := ⟨w.heap.size + 1, 1, none⟩) (by simp) _
    · obtain ⟨y, hy⟩ : ∃ y, y = be (sl den) := ⟨_, rfl⟩
      replace hy := Lib.hid hy
      replace hm := Lib.hid hm
      replace hs1 := Lib.hid hs1
      replace hs2 := Lib.hid hs2
      go_enter Tryz.func87, Tryz.ntmps87
      go_wp2_with fail
      refine (ratMay_any false num den _ z1 z2).mono ?_
      rintro e w1 ⟨rfl, hb⟩
      rw [hm.out]
      have q1 := Blk.below hK1.out hb
      have q2 := Blk.below hK2.out hb
      have hB1 := hBW.out.trans (hb.mono (by simp; omega))
      have c0 : w1.cell? ⟨w.heap.size, 0, none⟩ = some (.bool false) := q1.cell 0
      have c1 : w1.cell? ⟨w.heap.size, 1, none⟩ = some (.string num) := q1.cell 1
      have c2 : w1.cell? ⟨w.heap.size, 2, none⟩ = some (.string den) := q1.cell 2
      have p0 : w1.cell? ⟨w.heap.size + 1, 0, none⟩ = some (.int .u64 0) := q2.cell 0
      have p1 : w1.cell? ⟨w.heap.size + 1, 1, none⟩ = some (.int .u64 0) := q2.cell 1
      have f0 := q2.frozen 0
      have f1 := q2.frozen 1
      replace hB1 := Lib.hid hB1
      replace q1 := Lib.hid q1
      replace q2 := Lib.hid q2
      clear hb
      go_wp2_with fail
      refine (natSmall_no num _ z1 hs1.out).mono ?_
      rintro e w2 ⟨rfl, hb⟩
      have r1 := Blk.below q1.out hb
      have r2 := Blk.below q2.out hb
      have hB2 := hB1.out.trans (hb.mono hB1.out.size)
      clear c0 c1 c2 p0 p1 f0 f1 hB1 q1 q2 hb
      have c0 : w2.cell? ⟨w.heap.size, 0, none⟩ = some (.bool false) := r1.cell 0
      have c1 : w2.cell? ⟨w.heap.size, 1, none⟩ = some (.string num) := r1.cell 1
      have c2 : w2.cell? ⟨w.heap.size, 2, none⟩ = some (.string den) := r1.cell 2
      have p0 : w2.cell? ⟨w.heap.size + 1, 0, none⟩ = some (.int .u64 0) := r2.cell 0
      have p1 : w2.cell? ⟨w.heap.size + 1, 1, none⟩ = some (.int .u64 0) := r2.cell 1
      have f0 := r2.frozen 0
      have f1 := r2.frozen 1
      have hB1 := Lib.hid hB2
      have q1 := Lib.hid r1
      have q2 := Lib.hid r2
      clear hB2 r1 r2
      go_wp2_with fail
      refine (natSmall_yes den y _ z2 hs2.out hy).mono ?_
      rintro e w3 ⟨rfl, hb⟩
      have r1 := Blk.below q1.out hb
      have r2 := Blk.below q2.out hb
      have hB2 := hB1.out.trans (hb.mono hB1.out.size)
      clear c0 c1 c2 p0 p1 f0 f1 hB1 q1 q2 hb
      have c0 : w3.cell? ⟨w.heap.size, 0, none⟩ = some (.bool false) := r1.cell 0
      have c1 : w3.cell? ⟨w.heap.size, 1, none⟩ = some (.string num) := r1.cell 1
      have c2 : w3.cell? ⟨w.heap.size, 2, none⟩ = some (.string den) := r1.cell 2
      have p0 : w3.cell? ⟨w.heap.size + 1, 0, none⟩ = some (.int .u64 0) := r2.cell 0
      have p1 : w3.cell? ⟨w.heap.size + 1, 1, none⟩ = some (.int .u64 0) := r2.cell 1
      have f0 := r2.frozen 0
      have f1 := r2.frozen 1
      have hB1 := Lib.hid hB2
      have q1 := Lib.hid r1
      have q2 := Lib.hid r2
      clear hB2 r1 r2
      go_wp2
      refine bodyPost_ret (v := .tuple #[.agg #[.int .u64 0, .int .u64 0], .bool false]) (by simp [results, Tryz.results87, go_sem, p0, p1]) rfl ⟨by rw [hv.out], ?_⟩
      exact (hB1.out.setCell (p := ⟨w.heap.size + 1, 0, none⟩) (by simp) _).setCell (p := ⟨w.heap.size + 1, 1, none⟩) (by simp) _
  obtain ⟨x, hx⟩ : ∃ x, x = be (sl num) := ⟨_, rfl⟩
  have hxs : x < 18446744073709551616 := by rw [hx]; exact be_small hs1
  cases hs2 : smallB den
  · have hv : Hid (smallV false num den = .tuple #[.agg #[.int .u64 0, .int .u64 0], .bool false]) := Lib.hid (smallV_no (by simp [okA, hs2]))
    replace hx := Lib.hid hx
    replace hm := Lib.hid hm
    replace hs1 := Lib.hid hs1
    replace hs2 := Lib.hid hs2
    go_enter Tryz.func87, Tryz.ntmps87
    go_wp2_with fail
    refine (ratMay_any false num den _ z1 z2).mono ?_
    rintro e w1 ⟨rfl, hb⟩
    rw [hm.out]
    have q1 := Blk.below hK1.out hb
    have q2 := Blk.below hK2.out hb
    have hB1 := hBW.out.trans (hb.mono (by simp; omega))
    have c0 : w1.cell? ⟨w.heap.size, 0, none⟩ = some (.bool false) := q1.cell 0
    have c1 : w1.cell? ⟨w.heap.size, 1, none⟩ = some (.string num) := q1.cell 1
    have c2 : w1.cell? ⟨w.heap.size, 2, none⟩ = some (.string den) := q1.cell 2
    have p0 : w1.cell? ⟨w.heap.size + 1, 0, none⟩ = some (.int .u64 0) := q2.cell 0
    have p1 : w1.cell? ⟨w.heap.size + 1, 1, none⟩ = some (.int .u64 0) := q2.cell 1
    have f0 := q2.frozen 0
    have f1 := q2.frozen 1
    replace hB1 := Lib.hid hB1
    replace q1 := Lib.hid q1
    replace q2 := Lib.hid q2
    clear hb
    go_wp2_with fail
    refine (natSmall_yes num x _ z1 hs1.out hx).mono ?_
    rintro e w2 ⟨rfl, hb⟩
    have r1 := Blk.below q1.out hb
    have r2 := Blk.below q2.out hb
    have hB2 := hB1.out.trans (hb.mono hB1.out.size)
    clear c0 c1 c2 p0 p1 f0 f1 hB1 q1 q2 hb
    have c0 : w2.cell? ⟨w.heap.size, 0, none⟩ = some (.bool false) := r1.cell 0
    have c1 : w2.cell? ⟨w.heap.size, 1, none⟩ = some (.string num) := r1.cell 1
    have c2 : w2.cell? ⟨w.heap.size, 2, none⟩ = some (.string den) := r1.cell 2
    have p0 : w2.cell? ⟨w.heap.size + 1, 0, none⟩ = some (.int .u64 0) := r2.cell 0
    have p1 : w2.cell? ⟨w.heap.size + 1, 1, none⟩ = some (.int .u64 0) := r2.cell 1
    have f0 := r2.frozen 0
    have f1 := r2.frozen 1
    have hB1 := Lib.hid hB2
    have q1 := Lib.hid r1
    have q2 := Lib.hid r2
    clear hB2 r1 r2
    go_wp2_with fail
    refine (natSmall_no den _ z2 hs2.out).mono ?_
    rintro e w3 ⟨rfl, hb⟩
    have r1 := Blk.below q1.out hb
    have r2 := Blk.below q2.out hb
    have hB2 := hB1.out.trans (hb.mono hB1.out.size)
    clear c0 c1 c2 p0 p1 f0 f1 hB1 q1 q2 hb
    have c0 : w3.cell? ⟨w.heap.size, 0, none⟩ = some (.bool false) := r1.cell 0
    have c1 : w3.cell? ⟨w.heap.size, 1, none⟩ = some (.string num) := r1.cell 1
    have c2 : w3.cell? ⟨w.heap.size, 2, none⟩ = some (.string den) := r1.cell 2
    have p0 : w3.cell? ⟨w.heap.size + 1, 0, none⟩ = some (.int .u64 0) := r2.cell 0
    have p1 : w3.cell? ⟨w.heap.size + 1, 1, none⟩ = some (.int .u64 0) := r2.cell 1
    have f0 := r2.frozen 0
    have f1 := r2.frozen 1
    have hB1 := Lib.hid hB2
    have q1 := Lib.hid r1
    have q2 := Lib.hid r2
    clear hB2 r1 r2
    go_wp2
    refine bodyPost_ret (v := .tuple #[.agg #[.int .u64 0, .int .u64 0], .bool false]) (by simp [results, Tryz.results87, go_sem, p0, p1]) rfl ⟨by rw [hv.out], ?_⟩
    exact (hB1.out.setCell (p := ⟨w.heap.size + 1, 0, none⟩) (by simp) _).setCell (p := ⟨w.heap.size + 1, 1, none⟩) (by simp) _
  obtain ⟨y, hy⟩ : ∃ y, y = be (sl den) := ⟨_, rfl⟩
  have hys : y < 18446744073709551616 := by rw [hy]; exact be_small hs2
  by_cases hxy : x < y
  rotate_left
  · have hv : Hid (smallV false num den = .tuple #[.agg #[.int .u64 0, .int .u64 0], .bool false]) := Lib.hid (smallV_no (by simp [okA, ← hx, ← hy, hxy]))
    replace hx := Lib.hid hx
    replace hy := Lib.hid hy
    replace hm := Lib.hid hm
    replace hs1 := Lib.hid hs1
    replace hs2 := Lib.hid hs2
    have t1 : ((y : Int) ≤ (x : Int)) := by omega
    clear hxy
    go_enter Tryz.func87, Tryz.ntmps87
    go_wp2_with fail
    refine (ratMay_any false num den _ z1 z2).mono ?_
    rintro e w1 ⟨rfl, hb⟩
    rw [hm.out]
    have q1 := Blk.below hK1.out hb
    have q2 := Blk.below hK2.out hb
    have hB1 := hBW.out.trans (hb.mono (by simp; omega))
    have c0 : w1.cell? ⟨w.heap.size, 0, none⟩ = some (.bool false) := q1.cell 0
    have c1 : w1.cell? ⟨w.heap.size, 1, none⟩ = some (.string num) := q1.cell 1
    have c2 : w1.cell? ⟨w.heap.size, 2, none⟩ = some (.string den) := q1.cell 2
    have p0 : w1.cell? ⟨w.heap.size + 1, 0, none⟩ = some (.int .u64 0) := q2.cell 0
    have p1 : w1.cell? ⟨w.heap.size + 1, 1, none⟩ = some (.int .u64 0) := q2.cell 1
    have f0 := q2.frozen 0
    have f1 := q2.frozen 1
    replace hB1 := Lib.hid hB1
    replace q1 := Lib.hid q1
    replace q2 := Lib.hid q2
    clear hb
    go_wp2_with fail
    refine (natSmall_yes num x _ z1 hs1.out hx).mono ?_
    rintro e w2 ⟨rfl, hb⟩
    have r1 := Blk.below q1.out hb
    have r2 := Blk.below q2.out hb
    have hB2 := hB1.out.trans (hb.mono hB1.out.size)
    clear c0 c1 c2 p0 p1 f0 f1 hB1 q1 q2 hb
    have c0 : w2.cell? ⟨w.heap.size, 0, none⟩ = some (.bool false) := r1.cell 0
    have c1 : w2.cell? ⟨w.heap.size, 1, none⟩ = some (.string num) := r1.cell 1
    have c2 : w2.cell? ⟨w.heap.size, 2, none⟩ = some (.string den) := r1.cell 2
    have p0 : w2.cell? ⟨w.heap.size + 1, 0, none⟩ = some (.int .u64 0) := r2.cell 0
    have p1 : w2.cell? ⟨w.heap.size + 1, 1, none⟩ = some (.int .u64 0) := r2.cell 1
    have f0 := r2.frozen 0
    have f1 := r2.frozen 1
    have hB1 := Lib.hid hB2
    have q1 := Lib.hid r1
    have q2 := Lib.hid r2
    clear hB2 r1 r2
    go_wp2_with fail
    refine (natSmall_yes den y _ z2 hs2.out hy).mono ?_
    rintro e w3 ⟨rfl, hb⟩
    have r1 := Blk.below q1.out hb
    have r2 := Blk.below q2.out hb
    have hB2 := hB1.out.trans (hb.mono hB1.out.size)
    clear c0 c1 c2 p0 p1 f0 f1 hB1 q1 q2 hb
    have c0 : w3.cell? ⟨w.heap.size, 0, none⟩ = some (.bool false) := r1.cell 0
    have c1 : w3.cell? ⟨w.heap.size, 1, none⟩ = some (.string num) := r1.cell 1
    have c2 : w3.cell? ⟨w.heap.size, 2, none⟩ = some (.string den) := r1.cell 2
    have p0 : w3.cell? ⟨w.heap.size + 1, 0, none⟩ = some (.int .u64 0) := r2.cell 0
    have p1 : w3.cell? ⟨w.heap.size + 1, 1, none⟩ = some (.int .u64 0) := r2.cell 1
    have f0 := r2.frozen 0
    have f1 := r2.frozen 1
    have hB1 := Lib.hid hB2
    have q1 := Lib.hid r1
    have q2 := Lib.hid r2
    clear hB2 r1 r2
    go_wp2
    refine bodyPost_ret (v := .tuple #[.agg #[.int .u64 0, .int .u64 0], .bool false]) (by simp [results, Tryz.results87, go_sem, p0, p1]) rfl ⟨by rw [hv.out], ?_⟩
    exact (hB1.out.setCell (p := ⟨w.heap.size + 1, 0, none⟩) (by simp) _).setCell (p := ⟨w.heap.size + 1, 1, none⟩) (by simp) _
  have t1 : ¬ ((y : Int) ≤ (x : Int)) := by omega
  by_cases hyd : y ≤ 2147483647
  rotate_left
  · have hv : Hid (smallV false num den = .tuple #[.agg #[.int .u64 0, .int .u64 0], .bool false]) := Lib.hid (smallV_no (by simp [okA, ← hx, ← hy, hyd]))
    replace hx := Lib.hid hx
    replace hy := Lib.hid hy
    replace hm := Lib.hid hm
    replace hs1 := Lib.hid hs1
    replace hs2 := Lib.hid hs2
    have t2 : ((2147483647 : Int) < (y : Int)) := by omega
    clear hxy hyd
    go_enter Tryz.func87, Tryz.ntmps87
    go_wp2_with fail
    refine (ratMay_any false num den _ z1 z2).mono ?_
    rintro e w1 ⟨rfl, hb⟩
    rw [hm.out]
    have q1 := Blk.below hK1.out hb
    have q2 := Blk.below hK2.out hb
    have hB1 := hBW.out.trans (hb.mono (by simp; omega))
    have c0 : w1.cell? ⟨w.heap.size, 0, none⟩ = some (.bool false) := q1.cell 0
    have c1 : w1.cell? ⟨w.heap.size, 1, none⟩ = some (.string num) := q1.cell 1
    have c2 : w1.cell? ⟨w.heap.size, 2, none⟩ = some (.string den) := q1.cell 2
    have p0 : w1.cell? ⟨w.heap.size + 1, 0, none⟩ = some (.int .u64 0) := q2.cell 0
    have p1 : w1.cell? ⟨w.heap.size + 1, 1, none⟩ = some (.int .u64 0) := q2.cell 1
    have f0 := q2.frozen 0
    have f1 := q2.frozen 1
    replace hB1 := Lib.hid hB1
    replace q1 := Lib.hid q1
    replace q2 := Lib.hid q2
    clear hb
    go_wp2_with fail
    refine (natSmall_yes num x _ z1 hs1.out hx).mono ?_
    rintro e w2 ⟨rfl, hb⟩
    have r1 := Blk.below q1.out hb
    have r2 := Blk.below q2.out hb
    have hB2 := hB1.out.trans (hb.mono hB1.out.size)
    clear c0 c1 c2 p0 p1 f0 f1 hB1 q1 q2 hb
    have c0 : w2.cell? ⟨w.heap.size, 0, none⟩ = some (.bool false) := r1.cell 0
    have c1 : w2.cell? ⟨w.heap.size, 1, none⟩ = some (.string num) := r1.cell 1
    have c2 : w2.cell? ⟨w.heap.size, 2, none⟩ = some (.string den) := r1.cell 2
    have p0 : w2.cell? ⟨w.heap.size + 1, 0, none⟩ = some (.int .u64 0) := r2.cell 0
    have p1 : w2.cell? ⟨w.heap.size + 1, 1, none⟩ = some (.int .u64 0) := r2.cell 1
    have f0 := r2.frozen 0
    have f1 := r2.frozen 1
    have hB1 := Lib.hid hB2
    have q1 := Lib.hid r1
    have q2 := Lib.hid r2
    clear hB2 r1 r2
    go_wp2_with fail
    refine (natSmall_yes den y _ z2 hs2.out hy).mono ?_
    rintro e w3 ⟨rfl, hb⟩
    have r1 := Blk.below q1.out hb
    have r2 := Blk.below q2.out hb
    have hB2 := hB1.out.trans (hb.mono hB1.out.size)
    clear c0 c1 c2 p0 p1 f0 f1 hB1 q1 q2 hb
    have c0 : w3.cell? ⟨w.heap.size, 0, none⟩ = some (.bool false) := r1.cell 0
    have c1 : w3.cell? ⟨w.heap.size, 1, none⟩ = some (.string num) := r1.cell 1
    have c2 : w3.cell? ⟨w.heap.size, 2, none⟩ = some (.string den) := r1.cell 2
    have p0 : w3.cell? ⟨w.heap.size + 1, 0, none⟩ = some (.int .u64 0) := r2.cell 0
    have p1 : w3.cell? ⟨w.heap.size + 1, 1, none⟩ = some (.int .u64 0) := r2.cell 1
    have f0 := r2.frozen 0
    have f1 := r2.frozen 1
    have hB1 := Lib.hid hB2
    have q1 := Lib.hid r1
    have q2 := Lib.hid r2
    clear hB2 r1 r2
    go_wp2
    refine bodyPost_ret (v := .tuple #[.agg #[.int .u64 0, .int .u64 0], .bool false]) (by simp [results, Tryz.results87, go_sem, p0, p1]) rfl ⟨by rw [hv.out], ?_⟩
    exact (hB1.out.setCell (p := ⟨w.heap.size + 1, 0, none⟩) (by simp) _).setCell (p := ⟨w.heap.size + 1, 1, none⟩) (by simp) _
  · have hv : Hid (smallV false num den = .tuple #[.agg #[.int .u64 (x : Int), .int .u64 (y : Int)], .bool true]) := Lib.hid (by rw [smallV_yes (by simp [okA, hm, hs1, hs2, ← hx, ← hy, hxy, hyd]), ← hx, ← hy])
    replace hx := Lib.hid hx
    replace hy := Lib.hid hy
    replace hm := Lib.hid hm
    replace hs1 := Lib.hid hs1
    replace hs2 := Lib.hid hs2
    have t2 : ¬ ((2147483647 : Int) < (y : Int)) := by omega
    clear hxy hyd
    go_enter Tryz.func87, Tryz.ntmps87
    go_wp2_with fail
    refine (ratMay_any false num den _ z1 z2).mono ?_
    rintro e w1 ⟨rfl, hb⟩
    rw [hm.out]
    have q1 := Blk.below hK1.out hb
    have q2 := Blk.below hK2.out hb
    have hB1 := hBW.out.trans (hb.mono (by simp; omega))
    have c0 : w1.cell? ⟨w.heap.size, 0, none⟩ = some (.bool false) := q1.cell 0
    have c1 : w1.cell? ⟨w.heap.size, 1, none⟩ = some (.string num) := q1.cell 1
    have c2 : w1.cell? ⟨w.heap.size, 2, none⟩ = some (.string den) := q1.cell 2
    have p0 : w1.cell? ⟨w.heap.size + 1, 0, none⟩ = some (.int .u64 0) := q2.cell 0
    have p1 : w1.cell? ⟨w.heap.size + 1, 1, none⟩ = some (.int .u64 0) := q2.cell 1
    have f0 := q2.frozen 0
    have f1 := q2.frozen 1
    replace hB1 := Lib.hid hB1
    replace q1 := Lib.hid q1
    replace q2 := Lib.hid q2
    clear hb
    go_wp2_with fail
    refine (natSmall_yes num x _ z1 hs1.out hx).mono ?_
    rintro e w2 ⟨rfl, hb⟩
    have r1 := Blk.below q1.out hb
    have r2 := Blk.below q2.out hb
    have hB2 := hB1.out.trans (hb.mono hB1.out.size)
    clear c0 c1 c2 p0 p1 f0 f1 hB1 q1 q2 hb
    have c0 : w2.cell? ⟨w.heap.size, 0, none⟩ = some (.bool false) := r1.cell 0
    have c1 : w2.cell? ⟨w.heap.size, 1, none⟩ = some (.string num) := r1.cell 1
    have c2 : w2.cell? ⟨w.heap.size, 2, none⟩ = some (.string den) := r1.cell 2
    have p0 : w2.cell? ⟨w.heap.size + 1, 0, none⟩ = some (.int .u64 0) := r2.cell 0
    have p1 : w2.cell? ⟨w.heap.size + 1, 1, none⟩ = some (.int .u64 0) := r2.cell 1
    have f0 := r2.frozen 0
    have f1 := r2.frozen 1
    have hB1 := Lib.hid hB2
    have q1 := Lib.hid r1
    have q2 := Lib.hid r2
    clear hB2 r1 r2
    go_wp2_with fail
    refine (natSmall_yes den y _ z2 hs2.out hy).mono ?_
    rintro e w3 ⟨rfl, hb⟩
    have r1 := Blk.below q1.out hb
    have r2 := Blk.below q2.out hb
    have hB2 := hB1.out.trans (hb.mono hB1.out.size)
    clear c0 c1 c2 p0 p1 f0 f1 hB1 q1 q2 hb
    have c0 : w3.cell? ⟨w.heap.size, 0, none⟩ = some (.bool false) := r1.cell 0
    have c1 : w3.cell? ⟨w.heap.size, 1, none⟩ = some (.string num) := r1.cell 1
    have c2 : w3.cell? ⟨w.heap.size, 2, none⟩ = some (.string den) := r1.cell 2
    have p0 : w3.cell? ⟨w.heap.size + 1, 0, none⟩ = some (.int .u64 0) := r2.cell 0
    have p1 : w3.cell? ⟨w.heap.size + 1, 1, none⟩ = some (.int .u64 0) := r2.cell 1
    have f0 := r2.frozen 0
    have f1 := r2.frozen 1
    have hB1 := Lib.hid hB2
    have q1 := Lib.hid r1
    have q2 := Lib.hid r2
    clear hB2 r1 r2
    go_wp2
    refine bodyPost_ret (v := .tuple #[.agg #[.int .u64 (x : Int), .int .u64 (y : Int)], .bool true]) (by simp [results, Tryz.results87, go_sem, p0, p1]) rfl ⟨by rw [hv.out], ?_⟩
    exact (hB1.out.setCell (p := ⟨w.heap.size + 1, 0, none⟩) (by simp) _).setCell (p := ⟨w.heap.size + 1, 1, none⟩) (by simp) _
open Go.RowKit
def turnX (a b d n : Nat) : Nat := a * (d ^ n % b) % b
theorem okA_spec {neg : Bool} {num den : ByteArray} (h : okA neg num den = true) :
    neg = false ∧ mayB num = true ∧ mayB den = true ∧ Nat.gcd (be (sl num)) (be (sl den)) = 1 ∧ be (sl num) < be (sl den) ∧ be (sl den) ≤ 2147483647 := by
  simp [okA, ratioMay] at h
  obtain ⟨⟨⟨⟨⟨⟨⟨⟨⟨h1, h2⟩, h3⟩, h4⟩, -⟩, h5⟩, -⟩, -⟩, h6⟩, h7⟩ := h
  exact ⟨h5, h1, h2, h4, h6, h7⟩
open Go.RowKit
theorem tmod_cases (num den : Int) (h : 0 < den) : (num.tmod den < 0 ∧ num.tmod den + den = num % den) ∨ (0 ≤ num.tmod den ∧ num.tmod den = num % den) := by
  have h1 := Int.emod_nonneg num (by omega : den ≠ 0)
  have h2 := Int.emod_lt_of_pos num h
  rw [Int.tmod_eq_emod]
  split
  · right; omega
  · rename_i hh
    have h0 : num % den ≠ 0 := fun e => hh (Or.inr (Int.dvd_of_emod_eq_zero e))
    left; omega
end Go.Proofs.YtoaggmegmgdgbaaGreat
