/- Package ratio: May. -/
import Derived.Test.YtbddlbhanpjdnaaDoorNatC
import Derived.Deep.RegionHeld3
import Derived.Deep.DrawnRows
namespace Go.Proofs.YtbddlbhanpjdnaaDoor
open Go.RowKit

/-- Block g is just the cells cs. -/
def Blk (w : World) (g : Nat) (T : TypeId) (cs : Array Value) : Prop := w.heap[g]? = some (.cells cs T (0, 0))
section
variable {w w' : World} {g : Nat} {T : TypeId} {cs : Array Value}
theorem Blk.lt (h : Blk w g T cs) : g < w.heap.size := by
  rcases Nat.lt_or_ge g w.heap.size with hlt | hge
  · exact hlt
  · unfold Blk at h; rw [Array.getElem?_eq_none hge] at h; cases h
theorem Blk.cell (h : Blk w g T cs) (i : Nat) : w.cell? ⟨g, i, none⟩ = cs[i]? := cell_of_row w g i cs T (0, 0) h
theorem Blk.frozen (h : Blk w g T cs) (i : Nat) : w.frozen? ⟨g, i, none⟩ = false := by
  unfold Blk at h
  simp [World.frozen?, h]
theorem Blk.new (w : World) (T : TypeId) (cs : Array Value) : Blk (w.alloc (.cells cs T)) w.heap.size T cs := heap_alloc_new w _
theorem Blk.drew (h : Blk w g T cs) : Blk w.drew g T cs := h
theorem Blk.drewN (h : Blk w g T cs) (n : Nat) : Blk (w.drewN n) g T cs := h
theorem Blk.dr (hd : Dr w w') (h : Blk w g T cs) : Blk w' g T cs := by
  obtain ⟨n, rfl⟩ := hd
  exact h
theorem Blk.alloc (h : Blk w g T cs) (o : Obj) : Blk (w.alloc o) g T cs := (Below.heap_alloc w o g h.lt).trans h
theorem Blk.below (h : Blk w g T cs) (hb : Below w.heap.size w w') : Blk w' g T cs := (hb.block g h.lt).trans h
theorem Blk.grown {row : Option Nat} (h : Blk w g T cs) (hb : w.grownBy w' row) (hg : some g ≠ row) : Blk w' g T cs := (hb.block g h.lt hg).trans h
theorem Blk.far (h : Blk w g T cs) {p : Addr} (hp : g ≠ p.block) (u : Value) : Blk (w.setCell p u) g T cs := (Below.heap_setCell w p u g hp).trans h
theorem Blk.set_ (h : Blk w g T cs) (i : Nat) (u : Value) : Blk (w.setCell ⟨g, i, none⟩ u) g T (cs.setIfInBounds i u) := by
  unfold Blk at h ⊢
  simp [World.setCell, Array.getElem?_modify, h]
end

/-- A ratio in lowest terms. -/
def ratioMay (neg : Bool) (num den : ByteArray) : Bool :=
  mayB num && mayB den && decide (0 < be (sl den)) && decide (Nat.gcd (be (sl num)) (be (sl den)) = 1) && (!neg || decide (0 < be (sl num)))

theorem mayB_size {s : ByteArray} (h : mayB s = true) : s.size ≤ 16384 := by simp [mayB] at h; exact h.1
theorem be_zero {s : ByteArray} (h : mayB s = true) : be (sl s) = 0 ↔ s.size = 0 := by
  constructor
  · intro h0
    have := natS_be h
    rw [h0] at this
    rw [← this]; rfl
  · intro h0
    have : sl s = [] := List.eq_nil_of_length_eq_zero (by rw [sl_len]; exact h0)
    rw [this]; rfl
theorem be_one {s : ByteArray} (h : mayB s = true) : be (sl s) = 1 ↔ s.toList = [1] := by
  constructor
  · intro h0
    have := natS_be h
    rw [h0] at this
    rw [← this, ByteArray.toList_eq]; decide
  · intro h0
    have h1 : s.data.toList = [1] := by rw [← ByteArray.toList_eq s]; exact h0
    simp [sl, h1, be]
theorem dg_len_str {s : ByteArray} (h : mayB s = true) : (dg (be (sl s))).length ≤ 1073741823 := by
  have h1 := be_lt (sl_lt s)
  rw [sl_len] at h1
  have h2 := mayB_size h
  refine Nat.le_trans (dg_len_le_of_lt (k := s.size) (Nat.lt_of_lt_of_le h1 (Nat.pow_le_pow_left (by omega) _))) (by omega)

theorem cmp_one (g : Nat) : (cmpI g 1 == 0) = decide (g = 1) := by
  unfold cmpI
  by_cases h1 : g < 1
  · have : g ≠ 1 := by omega
    simp [h1, this]
  · by_cases h2 : 1 < g
    · have : g ≠ 1 := by omega
      simp [h1, h2, this]
    · have : g = 1 := by omega
      subst this; rfl

/-- The outcome of a test: a bool; of what was there nothing has turned. -/
def RetBool (b : Bool) (w : World) (e : Ending) (w' : World) : Prop := e = .returned (.bool b) ∧ Below w.heap.size w w'

attribute [local go_sem ↓] Go.wp_at_zero Go.wp_at_succ

set_option maxRecDepth 100000 in
set_option maxHeartbeats 1000000 in
theorem ratMay_gcd (neg : Bool) (num den : ByteArray) (w : World) (hn : mayB num = true) (hd : mayB den = true) (hn0 : num.size ≠ 0) (hd0 : den.size ≠ 0) :
    Calls Tryd.prog 60 #[.agg #[.bool neg, .string num, .string den]] w (RetBool (ratioMay neg num den) w) := by
  have s1 := mayB_size hn
  have s2 := mayB_size hd
  have l1 := dg_len_str hn
  have l2 := dg_len_str hd
  have hres : ratioMay neg num den = decide (Nat.gcd (be (sl num)) (be (sl den)) = 1) := by
    have h1 : 0 < be (sl num) := by
      rcases Nat.eq_zero_or_pos (be (sl num)) with h | h
      · exact absurd ((be_zero hn).1 h) hn0
      · exact h
    have h2 : 0 < be (sl den) := by
      rcases Nat.eq_zero_or_pos (be (sl den)) with h | h
      · exact absurd ((be_zero hd).1 h) hd0
      · exact h
    simp [ratioMay, hn, hd, h1, h2]
  have hres := Lib.hid hres
  have hn := Lib.hid hn
  have hd := Lib.hid hd
  have l1 := Lib.hid l1
  have l2 := Lib.hid l2
  have t1 : num.toList.isEmpty = false := by simp [List.isEmpty_eq_false_iff]; exact fun e => hn0 ((toList_nil_iff num).1 e)
  have t2 : den.toList.isEmpty = false := by simp [List.isEmpty_eq_false_iff]; exact fun e => hd0 ((toList_nil_iff den).1 e)
  clear hn0 hd0
  go_enter Tryd.func60, Tryd.ntmps60
  go_wp2_with fail
  have hK := Blk.new w 25 #[.bool neg, .string num, .string den]
  have hB0 : Below w.heap.size w (w.alloc (.cells #[.bool neg, .string num, .string den] 25)) := (Below.refl _ _).alloc (Nat.le_refl _) _
  refine (natCheck_any num _ (by omega)).mono ?_
  rintro e w1 ⟨rfl, hb⟩
  rw [hn.out]
  have hK := hK.below hb
  have hB0 := hB0.trans (hb.mono (by simp))
  have c1 : w1.cell? ⟨w.heap.size, 1, none⟩ = some (.string num) := hK.cell 1
  have c2 : w1.cell? ⟨w.heap.size, 2, none⟩ = some (.string den) := hK.cell 2
  have hK := Lib.hid hK
  have hB0 := Lib.hid hB0
  clear hb
  go_wp2_with fail
  refine (natCheck_any den _ (by omega)).mono ?_
  rintro e w2 ⟨rfl, hb⟩
  rw [hd.out]
  have hK := hK.out.below hb
  have hB0 := hB0.out.trans (hb.mono hB0.out.size)
  have c1 : w2.cell? ⟨w.heap.size, 1, none⟩ = some (.string num) := hK.cell 1
  have c2 : w2.cell? ⟨w.heap.size, 2, none⟩ = some (.string den) := hK.cell 2
  have hK := Lib.hid hK
  have hB0 := Lib.hid hB0
  clear hb
  go_wp2_with fail
  have hlt : w.heap.size < w2.heap.size := hK.out.lt
  go_region_held3 (fun w' => w'.cell? ⟨w.heap.size, 1, none⟩ = some (.string num) ∧ w'.cell? ⟨w.heap.size, 2, none⟩ = some (.string den)) (go_keep)
    (first
      | (go_at_call_of 78 (Value.string num); refine (whole_any num _ (by omega)).mono ?_; rintro e w3 ⟨p1, rfl, hp1, hb1, hB1⟩; have hz1 : w2.heap.size ≤ w3.heap.size := (by have := hB1.size; (try simp at this); omega); have k1 : w3.cell? ⟨w.heap.size, 1, none⟩ = some (.string num) := (hB1.cell (p := ⟨w.heap.size, 1, none⟩) (by first | omega | (simp; omega))).trans (by first | assumption | simp [*, go_sem]); have k2 : w3.cell? ⟨w.heap.size, 2, none⟩ = some (.string den) := (hB1.cell (p := ⟨w.heap.size, 2, none⟩) (by first | omega | (simp; omega))).trans (by first | assumption | simp [*, go_sem]))
      | (go_at_call_of 78 (Value.string den); refine (whole_any den _ (by omega)).mono ?_; rintro e w4 ⟨p2, rfl, hp2, hb2, hB2⟩; have hz2 : w3.heap.size ≤ w4.heap.size := (by have := hB2.size; (try simp at this); omega); have k3 : w4.cell? ⟨w.heap.size, 1, none⟩ = some (.string num) := (hB2.cell (p := ⟨w.heap.size, 1, none⟩) (by first | omega | (simp; omega))).trans (by first | assumption | simp [*, go_sem]); have k4 : w4.cell? ⟨w.heap.size, 2, none⟩ = some (.string den) := (hB2.cell (p := ⟨w.heap.size, 2, none⟩) (by first | omega | (simp; omega))).trans (by first | assumption | simp [*, go_sem]))
      | (go_at_call 77; refine (gcdBig_any _ 0 _ 0 _ 0 (be (sl num)) (be (sl den)) _ (by first | exact ((Big.new w2).slot.drew.below hB1).below hB2 | exact (Big.new w3).slot.below hB2 | exact (Big.new w4).slot) (by first | exact hb1.below hB2 | exact (hb1.alloc _).below hB2 | exact (hb1.below hB2).alloc _) (by first | exact hb2 | exact hb2.alloc _) l1.out l2.out).mono ?_; rintro e w5 ⟨rfl, hb3, hg⟩; have hz3 : w4.heap.size ≤ w5.heap.size := (by have := hg.size; (try simp at this); omega); have k5 : w5.cell? ⟨w.heap.size, 1, none⟩ = some (.string num) := hg.cell (by first | assumption | simp [*, go_sem]) (by simp; omega); have k6 : w5.cell? ⟨w.heap.size, 2, none⟩ = some (.string den) := hg.cell (by first | assumption | simp [*, go_sem]) (by simp; omega))
      | (go_at_call 80; refine (newInt_any 1 _ (by omega)).mono ?_; rintro e w6 ⟨p4, rfl, hp4, hb4, hB4⟩; have k7 : w6.cell? ⟨w.heap.size, 1, none⟩ = some (.string num) := (hB4.cell (p := ⟨w.heap.size, 1, none⟩) (by first | omega | (simp; omega))).trans (by first | assumption | simp [*, go_sem]); have k8 : w6.cell? ⟨w.heap.size, 2, none⟩ = some (.string den) := (hB4.cell (p := ⟨w.heap.size, 2, none⟩) (by first | omega | (simp; omega))).trans (by first | assumption | simp [*, go_sem]))
      | (go_at_call 79; refine (cmpBig_any _ 0 _ 0 (Nat.gcd (be (sl num)) (be (sl den))) 1 _ (hb3.below hB4) hb4).mono ?_; rintro e w7 ⟨rfl, n7, rfl⟩))
  all_goals
    have hX : Below w.heap.size w w4 := (by first
      | exact ((hB0.out.alloc (by omega) _).drew.trans (hB1.mono (by first | omega | (simp; omega)))).trans (hB2.mono (by first | omega | (simp; omega)))
      | exact (((hB0.out.drew).trans (hB1.mono (by first | omega | (simp; omega)))).alloc (by omega) _).trans (hB2.mono (by first | omega | (simp; omega)))
      | exact ((hB0.out.drew).trans (hB1.mono (by first | omega | (simp; omega)))).trans (hB2.mono (by first | omega | (simp; omega))))
    have hY : Below w.heap.size w w5 := (by first
      | exact below_gb hX hg (by omega) (by omega)
      | exact below_gb (hX.alloc (by omega) _) hg (by omega) (by simp; omega))
    have hZ : Below w.heap.size w (w6.drewN n7) := below_drewN (hY.trans (hB4.mono (by omega))) _
    go_wp2_with fail
    go_ret
    exact ⟨by rw [hres.out, ← cmp_one]; rfl, hZ⟩

theorem isEmpty_of_size {s : ByteArray} (h : s.size = 0) : s.toList.isEmpty = true := by simp [(toList_nil_iff s).2 h]
theorem isEmpty_of_size_ne {s : ByteArray} (h : s.size ≠ 0) : s.toList.isEmpty = false := by simp [List.isEmpty_eq_false_iff]; exact fun e => h ((toList_nil_iff s).1 e)

set_option maxRecDepth 100000 in
set_option maxHeartbeats 1000000 in
/-- ratio.May -/
theorem ratMay_any (neg : Bool) (num den : ByteArray) (w : World) (z1 : num.size ≤ 9223372036854775807) (z2 : den.size ≤ 9223372036854775807) :
    Calls Tryd.prog 60 #[.agg #[.bool neg, .string num, .string den]] w (RetBool (ratioMay neg num den) w) := by
  have hK0 := Blk.new w 25 #[.bool neg, .string num, .string den]
  have hB0 : Below w.heap.size w (w.alloc (.cells #[.bool neg, .string num, .string den] 25)) := (Below.refl _ _).alloc (Nat.le_refl _) _
  have hK0 := Lib.hid hK0
  have hB0 := Lib.hid hB0
  cases hn : mayB num
  · have hres : Hid (ratioMay neg num den = false) := Lib.hid (by simp [ratioMay, hn])
    have hn := Lib.hid hn
    go_enter Tryd.func60, Tryd.ntmps60
    go_wp2_with fail
    refine (natCheck_any num _ z1).mono ?_
    rintro e w1 ⟨rfl, hb⟩
    rw [hn.out]
    have hb := Lib.hid hb
    go_wp2
    go_ret
    exact ⟨by rw [hres.out]; rfl, hB0.out.trans (hb.out.mono (by simp))⟩
  cases hd : mayB den
  · have hres : Hid (ratioMay neg num den = false) := Lib.hid (by simp [ratioMay, hd])
    have hn := Lib.hid hn
    have hd := Lib.hid hd
    go_enter Tryd.func60, Tryd.ntmps60
    go_wp2_with fail
    refine (natCheck_any num _ z1).mono ?_
    rintro e w1 ⟨rfl, hb⟩
    rw [hn.out]
    have hK := hK0.out.below hb
    have c2 : w1.cell? ⟨w.heap.size, 2, none⟩ = some (.string den) := hK.cell 2
    have hB1 := hB0.out.trans (hb.mono (by simp))
    have hB1 := Lib.hid hB1
    clear hb hK
    go_wp2_with fail
    refine (natCheck_any den _ z2).mono ?_
    rintro e w2 ⟨rfl, hb⟩
    rw [hd.out]
    have hb := Lib.hid hb
    go_wp2
    go_ret
    exact ⟨by rw [hres.out]; rfl, hB1.out.trans (hb.out.mono hB1.out.size)⟩
  by_cases hd0 : den.size = 0
  · have hres : Hid (ratioMay neg num den = false) := Lib.hid (by
      have : be (sl den) = 0 := (be_zero hd).2 hd0
      simp [ratioMay, this])
    have t2 := isEmpty_of_size hd0
    have hn := Lib.hid hn
    have hd := Lib.hid hd
    clear hd0
    go_enter Tryd.func60, Tryd.ntmps60
    go_wp2_with fail
    refine (natCheck_any num _ z1).mono ?_
    rintro e w1 ⟨rfl, hb⟩
    rw [hn.out]
    have hK := hK0.out.below hb
    have c2 : w1.cell? ⟨w.heap.size, 2, none⟩ = some (.string den) := hK.cell 2
    have hB1 := hB0.out.trans (hb.mono (by simp))
    have hB1 := Lib.hid hB1
    clear hb
    have hK := Lib.hid hK
    go_wp2_with fail
    refine (natCheck_any den _ z2).mono ?_
    rintro e w2 ⟨rfl, hb⟩
    rw [hd.out]
    have c3 : w2.cell? ⟨w.heap.size, 2, none⟩ = some (.string den) := (hK.out.below hb).cell 2
    have hb := Lib.hid hb
    go_wp2
    go_ret
    exact ⟨by rw [hres.out]; rfl, hB1.out.trans (hb.out.mono hB1.out.size)⟩
  by_cases hn0 : num.size = 0
  · have e0 : be (sl num) = 0 := (be_zero hn).2 hn0
    have t1 := isEmpty_of_size hn0
    have t2 := isEmpty_of_size_ne hd0
    have hp : 0 < be (sl den) := by
      rcases Nat.eq_zero_or_pos (be (sl den)) with h | h
      · exact absurd ((be_zero hd).1 h) hd0
      · exact h
    have hres : Hid (ratioMay neg num den = (!neg && (den.toList == [1]))) := Lib.hid (by
      have h1 : (den.toList == [1]) = decide (be (sl den) = 1) := by
        by_cases h : be (sl den) = 1
        · rw [(be_one hd).1 h]; simp [h]
        · have : den.toList ≠ [1] := fun e => h ((be_one hd).2 e)
          simp [h, this]
      rw [h1]
      cases neg <;> simp [ratioMay, hn, hd, e0, hp])
    have hn := Lib.hid hn
    have hd := Lib.hid hd
    clear hd0 hn0 e0 hp
    cases neg
    · cases hden : (den.toList == [1])
      · have hden' := Lib.hid hden
        go_enter Tryd.func60, Tryd.ntmps60
        go_wp2_with fail
        refine (natCheck_any num _ z1).mono ?_
        rintro e w1 ⟨rfl, hb⟩
        rw [hn.out]
        have hK := hK0.out.below hb
        have c2 : w1.cell? ⟨w.heap.size, 2, none⟩ = some (.string den) := hK.cell 2
        have hB1 := Lib.hid (hB0.out.trans (hb.mono (by simp)))
        clear hb
        have hK := Lib.hid hK
        go_wp2_with fail
        refine (natCheck_any den _ z2).mono ?_
        rintro e w2 ⟨rfl, hb⟩
        rw [hd.out]
        have hK := hK.out.below hb
        have d0 : w2.cell? ⟨w.heap.size, 0, none⟩ = some (.bool false) := hK.cell 0
        have d1 : w2.cell? ⟨w.heap.size, 1, none⟩ = some (.string num) := hK.cell 1
        have d2 : w2.cell? ⟨w.heap.size, 2, none⟩ = some (.string den) := hK.cell 2
        have hb := Lib.hid hb
        clear hK c2
        go_wp2
        go_ret
        exact ⟨by rw [hres.out, hden'.out]; rfl, hB1.out.trans (hb.out.mono hB1.out.size)⟩
      · have hden' := Lib.hid hden
        go_enter Tryd.func60, Tryd.ntmps60
        go_wp2_with fail
        refine (natCheck_any num _ z1).mono ?_
        rintro e w1 ⟨rfl, hb⟩
        rw [hn.out]
        have hK := hK0.out.below hb
        have c2 : w1.cell? ⟨w.heap.size, 2, none⟩ = some (.string den) := hK.cell 2
        have hB1 := Lib.hid (hB0.out.trans (hb.mono (by simp)))
        clear hb
        have hK := Lib.hid hK
        go_wp2_with fail
        refine (natCheck_any den _ z2).mono ?_
        rintro e w2 ⟨rfl, hb⟩
        rw [hd.out]
        have hK := hK.out.below hb
        have d0 : w2.cell? ⟨w.heap.size, 0, none⟩ = some (.bool false) := hK.cell 0
        have d1 : w2.cell? ⟨w.heap.size, 1, none⟩ = some (.string num) := hK.cell 1
        have d2 : w2.cell? ⟨w.heap.size, 2, none⟩ = some (.string den) := hK.cell 2
        have hb := Lib.hid hb
        clear hK c2
        go_wp2
        go_ret
        exact ⟨by rw [hres.out, hden'.out]; rfl, hB1.out.trans (hb.out.mono hB1.out.size)⟩
    · go_enter Tryd.func60, Tryd.ntmps60
      go_wp2_with fail
      refine (natCheck_any num _ z1).mono ?_
      rintro e w1 ⟨rfl, hb⟩
      rw [hn.out]
      have hK := hK0.out.below hb
      have c2 : w1.cell? ⟨w.heap.size, 2, none⟩ = some (.string den) := hK.cell 2
      have hB1 := Lib.hid (hB0.out.trans (hb.mono (by simp)))
      clear hb
      have hK := Lib.hid hK
      go_wp2_with fail
      refine (natCheck_any den _ z2).mono ?_
      rintro e w2 ⟨rfl, hb⟩
      rw [hd.out]
      have hK := hK.out.below hb
      have d0 : w2.cell? ⟨w.heap.size, 0, none⟩ = some (.bool true) := hK.cell 0
      have d1 : w2.cell? ⟨w.heap.size, 1, none⟩ = some (.string num) := hK.cell 1
      have d2 : w2.cell? ⟨w.heap.size, 2, none⟩ = some (.string den) := hK.cell 2
      have hb := Lib.hid hb
      clear hK c2
      go_wp2
      go_ret
      exact ⟨by rw [hres.out]; rfl, hB1.out.trans (hb.out.mono hB1.out.size)⟩
  · exact ratMay_gcd neg num den w hn hd hn0 hd0
end Go.Proofs.YtbddlbhanpjdnaaDoor
