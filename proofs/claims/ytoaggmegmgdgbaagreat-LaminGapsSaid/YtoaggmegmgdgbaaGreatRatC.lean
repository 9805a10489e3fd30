import Derived.Test.YtoaggmegmgdgbaaGreatRatB
import Derived.Test.YtoaggmegmgdgbaaGreatAngA
namespace Go.Proofs.YtoaggmegmgdgbaaGreat
open Go.RowKit Go.Sort
set_option maxHeartbeats 400000 in
theorem ratNum_any (p : Nat) (w : World) : Calls Tryz.prog 120 #[.pointer (some ⟨p, 0, none⟩)] w fun e w' => e = .returned (.pointer (some ⟨p, 0, none⟩)) ∧ w = w' := by
  go_enter Tryz.func120, Tryz.ntmps120
  go_wp2
  go_ret
  exact ⟨rfl, rfl⟩
set_option maxHeartbeats 400000 in
theorem ratDen_any (p : Nat) (w : World) : Calls Tryz.prog 121 #[.pointer (some ⟨p, 0, none⟩)] w fun e w' => e = .returned (.pointer (some ⟨p, 2, none⟩)) ∧ w = w' := by
  go_enter Tryz.func121, Tryz.ntmps121
  go_wp2
  go_ret
  exact ⟨rfl, rfl⟩
def frV (a : Int) (b : Nat) : Value := .agg #[.bool (decide (a < 0)), .string (natS a.natAbs), .string (natS b)]
set_option maxRecDepth 100000 in
set_option maxHeartbeats 800000 in
theorem toldR_any (p : Nat) (a : Int) (b : Nat) (w : World) (h : Rt w p a b) (hla : (dg a.natAbs).length ≤ 1073741823) (hlb : (dg b).length ≤ 1073741823) (hna : (nb a.natAbs).length ≤ 16384) (hnb : (nb b).length ≤ 16384) :
    Calls Tryz.prog 79 #[.pointer (some ⟨p, 0, none⟩)] w fun e w' => e = .returned (.tuple #[frV a b, .int .i64 0]) ∧ Below w.heap.size w w' := by
  have z1 : ((natS a.natAbs).size : Int) ≤ 16384 := by rw [natS_size]; omega
  have z2 : ((natS b).size : Int) ≤ 16384 := by rw [natS_size]; omega
  have hsg : decide (a.sign < 0) = decide (a < 0) := by
    rcases Int.lt_trichotomy a 0 with h1 | h1 | h1
    · simp [h1, Int.sign_eq_neg_one_of_neg h1]
    · subst h1; rfl
    · have h2 : ¬ a < 0 := by omega
      simp [h2, Int.sign_eq_one_of_pos h1]
  have hs : ∀ W, Rt W p a b → Calls Tryz.prog 117 #[.pointer (some ⟨p, 0, none⟩)] W fun e w' => e = .returned (.int .i64 a.sign) ∧ W = w' := fun W hW => ratSign_any p a b W hW
  have hA : ∀ (q : Nat) (W : World), BS W q 0 → Rt W p a b → Calls Tryz.prog 119 #[.pointer (some ⟨q, 0, none⟩), .pointer (some ⟨p, 0, none⟩)] W (RetBig (a.natAbs : Int) q 0 W) := fun q W h1 h2 => absBig_any q 0 p 0 a W h1 h2.num
  have hL1 : ∀ (q : Nat) (W : World), Big W q 0 (a.natAbs : Int) → Calls Tryz.prog 118 #[.pointer (some ⟨q, 0, none⟩)] W fun e w' => e = .returned (.string (natS a.natAbs)) ∧ Below W.heap.size W w' := fun q W h1 => by
    have := laidR_any q 0 (a.natAbs : Int) W h1 (by rw [Int.natAbs_natCast]; exact hla)
    rwa [Int.natAbs_natCast] at this
  have hL2 : ∀ (W : World), Rt W p a b → Calls Tryz.prog 118 #[.pointer (some ⟨p, 2, none⟩)] W fun e w' => e = .returned (.string (natS b)) ∧ Below W.heap.size W w' := fun W h1 => by
    have := laidR_any p 2 (b : Int) W h1.den (by rw [Int.natAbs_natCast]; exact hlb)
    rwa [Int.natAbs_natCast] at this
  unfold frV
  rw [← hsg]
  obtain ⟨na, hna'⟩ : ∃ x, x = natS a.natAbs := ⟨_, rfl⟩
  obtain ⟨nb', hnb'⟩ : ∃ x, x = natS b := ⟨_, rfl⟩
  obtain ⟨sg, hsg'⟩ : ∃ x, x = a.sign := ⟨_, rfl⟩
  rw [← hna'] at z1 hL1 ⊢
  rw [← hnb'] at z2 hL2 ⊢
  rw [← hsg'] at hs ⊢
  replace hs := Lib.hid hs
  replace hA := Lib.hid hA
  replace hL1 := Lib.hid hL1
  replace hL2 := Lib.hid hL2
  replace z1 : ¬ (16384 : Int) < (na.size : Int) := by omega
  replace z2 : ¬ (16384 : Int) < (nb'.size : Int) := by omega
  have hpl := Lib.hid h.room.lt
  replace h := Lib.hid h
  clear hsg hla hlb hna hnb hna' hnb' hsg'
  go_enter Tryz.func79, Tryz.ntmps79
  go_wp2_with fail
  have hK0 := Blk.new w 26 #[.bool false, .string ⟨#[]⟩, .string ⟨#[]⟩]
  have hB0 : Below w.heap.size w (w.alloc (.cells #[.bool false, .string ⟨#[]⟩, .string ⟨#[]⟩] 26)) := (Below.refl _ w).alloc (Nat.le_refl _) _
  have hs0 : (w.alloc (.cells #[.bool false, .string ⟨#[]⟩, .string ⟨#[]⟩] 26)).heap.size = w.heap.size + 1 := by simp
  generalize hw1 : w.alloc (.cells #[.bool false, .string ⟨#[]⟩, .string ⟨#[]⟩] 26) = w1 at hK0 hB0 hs0 ⊢
  replace hK0 := Lib.hid hK0
  replace hB0 := Lib.hid hB0
  clear hw1
  refine (hs.out w1 (Rt.below h.out hB0.out)).mono ?_
  rintro e w1' ⟨rfl, rfl⟩
  go_wp2_with fail
  have hK1 := Blk.alloc hK0.out (.cells #[.bool false, .slice none 0 0] 151)
  have hbs := (Big.new w1).slot
  have hB1 : Below w.heap.size w (w1.alloc (.cells #[.bool false, .slice none 0 0] 151)) := hB0.out.alloc hB0.out.size _
  rw [hs0] at hbs
  generalize hw2 : w1.alloc (.cells #[.bool false, .slice none 0 0] 151) = w2 at hK1 hbs hB1 ⊢
  replace hK1 := Lib.hid hK1
  replace hbs := Lib.hid hbs
  replace hB1 := Lib.hid hB1
  clear hw2 hK0 hB0 hs0
  refine (ratNum_any p w2).mono ?_
  rintro e w2' ⟨rfl, rfl⟩
  go_wp2_with fail
  refine (hA.out (w.heap.size + 1) w2 hbs.out (Rt.below h.out hB1.out)).mono ?_
  rintro e w3 ⟨rfl, hbig, hg⟩
  have hB2 := Lib.hid (below_gb (q := w.heap.size + 1) hB1.out hg (by omega) hB1.out.size)
  have hK2 := Lib.hid (Blk.grown hK1.out hg (by intro e; injection e with e; omega))
  replace hbig := Lib.hid hbig
  clear hg hK1 hB1 hbs
  go_wp2_with fail
  refine (hL1.out (w.heap.size + 1) w3 hbig.out).mono ?_
  rintro e w4 ⟨rfl, hb4⟩
  have hB4 := Lib.hid (hB2.out.trans (hb4.mono hB2.out.size))
  have hK4 := Lib.hid (Blk.below hK2.out hb4)
  clear hb4 hK2 hB2 hbig
  go_wp2_with fail
  refine (ratDen_any p w4).mono ?_
  rintro e w4' ⟨rfl, rfl⟩
  go_wp2_with fail
  refine (hL2.out w4 (Rt.below h.out hB4.out)).mono ?_
  rintro e w5 ⟨rfl, hb5⟩
  have hB5 := Lib.hid (hB4.out.trans (hb5.mono hB4.out.size))
  have hK5 := Lib.hid (Blk.below hK4.out hb5)
  clear hb5 hK4 hB4
  have hsz5 := Lib.hid hB5.out.size
  replace hK5 := Lib.hid hK5.out
  go_upto_region 2 with fail
  have hN := Blk.new w5 26 #[.bool (decide (sg < 0)), .string na, .string nb']
  have hO := Blk.alloc hK5.out (.cells #[.bool (decide (sg < 0)), .string na, .string nb'] 26)
  have hB6 : Below w.heap.size w (w5.alloc (.cells #[.bool (decide (sg < 0)), .string na, .string nb'] 26)) := hB5.out.alloc hB5.out.size _
  have hlt : w.heap.size < w5.heap.size := hK5.out.lt
  generalize hw6 : w5.alloc (.cells #[.bool (decide (sg < 0)), .string na, .string nb'] 26) = w6 at hN hO hB6 ⊢
  generalize hg6 : w5.heap.size = g6 at hN hlt ⊢
  have i0 : w6.cell? ⟨w.heap.size, 0, none⟩ = some (.bool false) := hO.cell 0
  have i1 : w6.cell? ⟨w.heap.size, 1, none⟩ = some (.string ⟨#[]⟩) := hO.cell 1
  have i2 : w6.cell? ⟨w.heap.size, 2, none⟩ = some (.string ⟨#[]⟩) := hO.cell 2
  have f0 := hO.frozen 0
  have f1 := hO.frozen 1
  have f2 := hO.frozen 2
  have j0 : w6.cell? ⟨g6, 0, none⟩ = some (.bool (decide (sg < 0))) := hN.cell 0
  have j1 : w6.cell? ⟨g6, 1, none⟩ = some (.string na) := hN.cell 1
  have j2 : w6.cell? ⟨g6, 2, none⟩ = some (.string nb') := hN.cell 2
  replace hB6 := Lib.hid hB6
  clear hw6 hg6 hN hO hK5 hB5 hsz5 hlt
  go_wp2
  refine bodyPost_ret (v := .tuple #[.agg #[.bool (decide (sg < 0)), .string na, .string nb'], .int .i64 0]) (by simp [results, Tryz.results79, go_sem, i0, i1, i2]) rfl ⟨rfl, ?_⟩
  exact ((hB6.out.setCell (p := ⟨w.heap.size, 0, none⟩) (by simp) _).setCell (p := ⟨w.heap.size, 1, none⟩) (by simp) _).setCell (p := ⟨w.heap.size, 2, none⟩) (by simp) _
set_option maxRecDepth 100000 in
set_option maxHeartbeats 800000 in
theorem setInt_any (p q o : Nat) (a : Int) (w : World) (h : RtS w p) (hx : Big w q o a) (hl : (dg a.natAbs).length ≤ 1073741823) :
    Calls Tryz.prog 122 #[.pointer (some ⟨p, 0, none⟩), .pointer (some ⟨q, o, none⟩)] w (RetRt a 1 p w) := by
  have e1 : lowN a 1 = a := by simp [lowN]
  have e2 : lowD a 1 = 1 := by simp [lowD]
  have hn : ∀ (r : Nat) (W : World), RtS W p → Big W q o a → Big W r 0 (1 : Int) → Calls Tryz.prog 131 #[.pointer (some ⟨p, 0, none⟩), .pointer (some ⟨q, o, none⟩), .pointer (some ⟨r, 0, none⟩)] W (RetRt a 1 p W) := fun r W h1 h2 h3 => by
    have := norm_any p q o r 0 a 1 W h1 h2 h3 (by omega) hl (by decide)
    rwa [e1, e2] at this
  have h1 := Lib.hid (newInt_any 1 w (by omega))
  replace hn := Lib.hid hn
  replace h := Lib.hid h
  replace hx := Lib.hid hx
  clear e1 e2 hl
  go_enter Tryz.func122, Tryz.ntmps122
  go_wp2_with fail
  refine h1.out.mono ?_
  rintro e w1 ⟨r, rfl, -, hr, hb⟩
  replace hb := Lib.hid hb
  replace hr := Lib.hid hr
  clear h1
  go_wp2_with fail
  refine (hn.out r w1 (RtS.below h.out hb.out) (Big.below hx.out hb.out) hr.out).mono ?_
  rintro e w2 ⟨rfl, h2, hg⟩
  replace h2 := Lib.hid h2
  replace hg := Lib.hid hg
  clear hn hr hx h
  go_wp2
  go_ret
  exact ⟨rfl, h2.out, gb_trans (gb_of_below hb.out) hg.out⟩
set_option maxRecDepth 100000 in
set_option maxHeartbeats 800000 in
theorem setInt64_any (p x : Nat) (w : World) (h : RtS w p) (hx : x < 9223372036854775808) (hl : (dg x).length ≤ 1073741823) :
    Calls Tryz.prog 80 #[.pointer (some ⟨p, 0, none⟩), .int .i64 (x : Int)] w (RetRt (x : Int) 1 p w) := by
  have h1 := Lib.hid (newInt_any x w hx)
  have hn : ∀ (r : Nat) (W : World), RtS W p → Big W r 0 (x : Int) → Calls Tryz.prog 122 #[.pointer (some ⟨p, 0, none⟩), .pointer (some ⟨r, 0, none⟩)] W (RetRt (x : Int) 1 p W) := fun r W k1 k2 => setInt_any p r 0 (x : Int) W k1 k2 (by rw [Int.natAbs_natCast]; exact hl)
  replace hn := Lib.hid hn
  replace h := Lib.hid h
  clear hx hl
  go_enter Tryz.func80, Tryz.ntmps80
  go_wp2_with fail
  refine h1.out.mono ?_
  rintro e w1 ⟨r, rfl, -, hr, hb⟩
  replace hb := Lib.hid hb
  replace hr := Lib.hid hr
  clear h1
  go_wp2_with fail
  refine (hn.out r w1 (RtS.below h.out hb.out) hr.out).mono ?_
  rintro e w2 ⟨rfl, h2, hg⟩
  replace h2 := Lib.hid h2
  replace hg := Lib.hid hg
  clear hn hr h
  go_wp2
  go_ret
  exact ⟨rfl, h2.out, gb_trans (gb_of_below hb.out) hg.out⟩
set_option maxRecDepth 100000 in
set_option maxHeartbeats 800000 in
theorem wholeR_any (x : Nat) (w : World) (hx : x < 9223372036854775808) (hl : (dg x).length ≤ 1073741823) (hn : (nb x).length ≤ 16384) :
    Calls Tryz.prog 31 #[.int .i64 (x : Int)] w fun e w' => e = .returned (frV (x : Int) 1) ∧ Below w.heap.size w w' := by
  have h1 : ∀ (p : Nat) (W : World), RtS W p → Calls Tryz.prog 80 #[.pointer (some ⟨p, 0, none⟩), .int .i64 (x : Int)] W (RetRt (x : Int) 1 p W) := fun p W k => setInt64_any p x W k hx hl
  have h2 : ∀ (p : Nat) (W : World), Rt W p (x : Int) 1 → Calls Tryz.prog 79 #[.pointer (some ⟨p, 0, none⟩)] W fun e w' => e = .returned (.tuple #[frV (x : Int) 1, .int .i64 0]) ∧ Below W.heap.size W w' := fun p W k => toldR_any p (x : Int) 1 W k (by rw [Int.natAbs_natCast]; exact hl) (by decide) (by rw [Int.natAbs_natCast]; exact hn) (by decide)
  unfold frV at h2 ⊢
  obtain ⟨bs, hbs⟩ : ∃ b, b = decide ((x : Int) < 0) := ⟨_, rfl⟩
  obtain ⟨na, hna⟩ : ∃ b, b = natS (x : Int).natAbs := ⟨_, rfl⟩
  obtain ⟨nd, hnd⟩ : ∃ b, b = natS 1 := ⟨_, rfl⟩
  rw [← hbs, ← hna, ← hnd] at h2 ⊢
  replace h1 := Lib.hid h1
  replace h2 := Lib.hid h2
  clear hx hl hn hbs hna hnd
  go_enter Tryz.func31, Tryz.ntmps31
  go_wp2_with fail
  have hK := (Blk.new w 26 #[.bool false, .string ⟨#[]⟩, .string ⟨#[]⟩]).alloc (.cells #[.bool false, .slice none 0 0, .bool false, .slice none 0 0] 153)
  have hS := Rt.new (w.alloc (.cells #[.bool false, .string ⟨#[]⟩, .string ⟨#[]⟩] 26))
  have hB : Below w.heap.size w ((w.alloc (.cells #[.bool false, .string ⟨#[]⟩, .string ⟨#[]⟩] 26)).alloc (.cells #[.bool false, .slice none 0 0, .bool false, .slice none 0 0] 153)) := ((Below.refl _ w).alloc (Nat.le_refl _) _).alloc (by simp) _
  have hsz : (w.alloc (.cells #[.bool false, .string ⟨#[]⟩, .string ⟨#[]⟩] 26)).heap.size = w.heap.size + 1 := by simp
  rw [hsz] at hS
  generalize hw1 : (w.alloc (.cells #[.bool false, .string ⟨#[]⟩, .string ⟨#[]⟩] 26)).alloc (.cells #[.bool false, .slice none 0 0, .bool false, .slice none 0 0] 153) = w1 at hK hS hB ⊢
  replace hK := Lib.hid hK
  replace hS := Lib.hid hS
  replace hB := Lib.hid hB
  clear hw1 hsz
  refine (h1.out (w.heap.size + 1) w1 hS.out).mono ?_
  rintro e w2 ⟨rfl, hr, hg⟩
  have hB2 := Lib.hid (below_gb (q := w.heap.size + 1) hB.out hg (by omega) hB.out.size)
  have hK2 := Lib.hid (Blk.grown hK.out hg (by intro e; injection e with e; omega))
  replace hr := Lib.hid hr
  clear hg hK hB hS h1
  go_wp2_with fail
  refine (h2.out (w.heap.size + 1) w2 hr.out).mono ?_
  rintro e w5 ⟨rfl, hb⟩
  have hB5 := Lib.hid (hB2.out.trans (hb.mono hB2.out.size))
  have hK5 := Lib.hid (Blk.below hK2.out hb)
  clear hb hK2 hB2 hr h2
  go_upto_region 2 with fail
  have hN := Blk.new w5 26 #[.bool bs, .string na, .string nd]
  have hO := Blk.alloc hK5.out (.cells #[.bool bs, .string na, .string nd] 26)
  have hB6 : Below w.heap.size w (w5.alloc (.cells #[.bool bs, .string na, .string nd] 26)) := hB5.out.alloc hB5.out.size _
  have hlt : w.heap.size < w5.heap.size := hK5.out.lt
  generalize hw6 : w5.alloc (.cells #[.bool bs, .string na, .string nd] 26) = w6 at hN hO hB6 ⊢
  generalize hg6 : w5.heap.size = g6 at hN hlt ⊢
  have i0 : w6.cell? ⟨w.heap.size, 0, none⟩ = some (.bool false) := hO.cell 0
  have i1 : w6.cell? ⟨w.heap.size, 1, none⟩ = some (.string ⟨#[]⟩) := hO.cell 1
  have i2 : w6.cell? ⟨w.heap.size, 2, none⟩ = some (.string ⟨#[]⟩) := hO.cell 2
  have f0 := hO.frozen 0
  have f1 := hO.frozen 1
  have f2 := hO.frozen 2
  have j0 : w6.cell? ⟨g6, 0, none⟩ = some (.bool bs) := hN.cell 0
  have j1 : w6.cell? ⟨g6, 1, none⟩ = some (.string na) := hN.cell 1
  have j2 : w6.cell? ⟨g6, 2, none⟩ = some (.string nd) := hN.cell 2
  replace hB6 := Lib.hid hB6
  clear hw6 hg6 hN hO hK5 hB5 hlt
  go_wp2
  refine bodyPost_ret (v := .agg #[.bool bs, .string na, .string nd]) (by simp [results, Tryz.results31, go_sem, i0, i1, i2]) rfl ⟨rfl, ?_⟩
  exact ((hB6.out.setCell (p := ⟨w.heap.size, 0, none⟩) (by simp) _).setCell (p := ⟨w.heap.size, 1, none⟩) (by simp) _).setCell (p := ⟨w.heap.size, 2, none⟩) (by simp) _
end Go.Proofs.YtoaggmegmgdgbaaGreat
