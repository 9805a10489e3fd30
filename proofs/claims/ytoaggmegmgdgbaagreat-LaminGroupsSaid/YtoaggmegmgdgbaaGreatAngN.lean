import Derived.Test.YtoaggmegmgdgbaaGreatAngH
import Derived.BigQuiet
import Derived.Deep.CutBlock
import Derived.Lib.QuietBelow
namespace Go.Proofs.YtoaggmegmgdgbaaGreat
open Go.RowKit
def cmpN (x y : Nat) : Int := if x < y then -1 else if y < x then 1 else 0
set_option maxRecDepth 100000 in
set_option maxHeartbeats 400000 in
theorem compare_any (a b c d x y : Nat) (w : World) (hx : Hid (x = a * d)) (hy : Hid (y = c * b)) (hxs : x < 18446744073709551616) (hys : y < 18446744073709551616) :
    Calls Tryz.prog 134 #[.agg #[.int .u64 (a : Int), .int .u64 (b : Int)], .agg #[.int .u64 (c : Int), .int .u64 (d : Int)]] w (RetVal (.int .i64 (cmpN x y)) w) := by
  have hxi : (a : Int) * (d : Int) = (x : Int) := by rw [hx.out]; push_cast; rfl
  have hyi : (c : Int) * (b : Int) = (y : Int) := by rw [hy.out]; push_cast; rfl
  have w1 : IntKind.u64.wrap (x : Int) = (x : Int) := by rw [IntKind.wrap_u64]; omega
  have w2 : IntKind.u64.wrap (y : Int) = (y : Int) := by rw [IntKind.wrap_u64]; omega
  have hBW : Hid (Below w.heap.size w ((w.alloc (.cells #[.int .u64 (a : Int), .int .u64 (b : Int)] 144)).alloc (.cells #[.int .u64 (c : Int), .int .u64 (d : Int)] 144))) := Lib.hid (((Below.refl _ w).alloc (Nat.le_refl _) _).alloc (by simp) _)
  by_cases h1 : x < y
  · have hv : Hid (cmpN x y = -1) := Lib.hid (by simp [cmpN, h1])
    have h1I : (x : Int) < (y : Int) := by omega
    go_enter Tryz.func134, Tryz.ntmps134
    go_wp2_with fail
    go_quiet (fail)
    go_wp2_with fail
    go_ret
    exact ⟨by rw [hv.out]; rfl, by first | exact hBW.out | exact below_drewN hBW.out _⟩
  · by_cases h2 : y < x
    · have hv : Hid (cmpN x y = 1) := Lib.hid (by simp [cmpN, h1, h2])
      have h1I : ¬ (x : Int) < (y : Int) := by omega
      have h2I : (y : Int) < (x : Int) := by omega
      go_enter Tryz.func134, Tryz.ntmps134
      go_wp2_with fail
      go_quiet (fail)
      go_wp2_with fail
      go_ret
      exact ⟨by rw [hv.out]; rfl, by first | exact hBW.out | exact below_drewN hBW.out _⟩
    · have hv : Hid (cmpN x y = 0) := Lib.hid (by simp [cmpN, h1, h2])
      have h1I : ¬ (x : Int) < (y : Int) := by omega
      have h2I : ¬ (y : Int) < (x : Int) := by omega
      go_enter Tryz.func134, Tryz.ntmps134
      go_wp2_with fail
      go_quiet (fail)
      go_wp2_with fail
      go_ret
      exact ⟨by rw [hv.out]; rfl, by first | exact hBW.out | exact below_drewN hBW.out _⟩
open Go.RowKit Go.Sort
theorem smallV_form (neg : Bool) (num den : ByteArray) : ∃ x y : Nat, smallV neg num den = .tuple #[.agg #[.int .u64 (x : Int), .int .u64 (y : Int)], .bool (okA neg num den)] ∧ (okA neg num den = true → x = be (sl num) ∧ y = be (sl den) ∧ x < y ∧ y ≤ 2147483647) := by
  cases h : okA neg num den
  · exact ⟨0, 0, smallV_no h, fun h => by simp at h⟩
  · obtain ⟨-, -, -, -, h1, h2⟩ := okA_spec h
    exact ⟨_, _, smallV_yes h, fun _ => ⟨rfl, rfl, h1, h2⟩⟩
open Go.RowKit
open Go.RowKit
set_option maxRecDepth 100000 in
set_option maxHeartbeats 400000 in
theorem check_any (n1 : Bool) (a1 d1 : ByteArray) (w : World) (z1 : a1.size ≤ 9223372036854775807) (z2 : d1.size ≤ 9223372036854775807) :
    Calls Tryz.prog 35 #[.agg #[.bool n1, .string a1, .string d1]] w (RetVal (.int .i64 (if okA n1 a1 d1 then 0 else 210)) w) := by
  obtain ⟨r, hr⟩ : ∃ r : Value, r = .int .i64 (if okA n1 a1 d1 then 0 else 210) := ⟨_, rfl⟩
  rw [← hr]
  replace hr := Lib.hid hr
  obtain ⟨x1, y1, hs1, -⟩ := smallV_form n1 a1 d1
  have hBW : Below w.heap.size w (w.alloc (.cells #[.bool n1, .string a1, .string d1] 26)) := (Below.refl _ w).alloc (Nat.le_refl _) _
  replace hBW := Lib.hid hBW
  replace hs1 := Lib.hid hs1
  go_enter Tryz.func35, Tryz.ntmps35
  go_wp2_with fail
  refine (small_any n1 a1 d1 _ z1 z2).mono ?_
  rintro en v1 ⟨rfl, hb⟩
  rw [hs1.out]
  have hB1 := hBW.out.trans (hb.mono (by simp))
  replace hB1 := hB1.alloc hB1.size (.cells #[.int .u64 (x1 : Int), .int .u64 (y1 : Int)] 144)
  clear hb hBW
  go_upto_region 2 with fail
  generalize hv1 : v1.alloc (.cells #[.int .u64 (x1 : Int), .int .u64 (y1 : Int)] 144) = u1 at hB1 ⊢
  replace hB1 := Lib.hid hB1
  clear hv1
  cases h1 : okA n1 a1 d1
  · have hv : Hid (r = .int .i64 210) := Lib.hid (by rw [hr.out, h1]; rfl)
    go_wp2_with fail
    go_ret
    exact ⟨by rw [hv.out]; rfl, hB1.out⟩
  · have hv : Hid (r = .int .i64 0) := Lib.hid (by rw [hr.out, h1]; rfl)
    go_wp2_with fail
    go_ret
    exact ⟨by rw [hv.out]; rfl, hB1.out⟩
def acmpV (n1 : Bool) (a1 d1 : ByteArray) (n2 : Bool) (a2 d2 : ByteArray) : Value :=
  if okA n1 a1 d1 && okA n2 a2 d2 then .tuple #[.int .i64 (cmpN (be (sl a1) * be (sl d2)) (be (sl a2) * be (sl d1))), .int .i64 0]
  else .tuple #[.int .i64 0, .int .i64 210]
set_option maxRecDepth 100000 in
set_option maxHeartbeats 2000000 in
theorem acmp_any (n1 : Bool) (a1 d1 : ByteArray) (n2 : Bool) (a2 d2 : ByteArray) (w : World)
    (z1 : a1.size ≤ 9223372036854775807) (z2 : d1.size ≤ 9223372036854775807) (z3 : a2.size ≤ 9223372036854775807) (z4 : d2.size ≤ 9223372036854775807) :
    Calls Tryz.prog 109 #[.agg #[.bool n1, .string a1, .string d1], .agg #[.bool n2, .string a2, .string d2]] w (RetVal (acmpV n1 a1 d1 n2 a2 d2) w) := by
  obtain ⟨x1, y1, hs1, hq1⟩ := smallV_form n1 a1 d1
  obtain ⟨x2, y2, hs2, hq2⟩ := smallV_form n2 a2 d2
  have hK2 := Blk.new (w.alloc (.cells #[.bool n1, .string a1, .string d1] 26)) 26 #[.bool n2, .string a2, .string d2]
  have hBW : Below w.heap.size w ((w.alloc (.cells #[.bool n1, .string a1, .string d1] 26)).alloc (.cells #[.bool n2, .string a2, .string d2] 26)) := ((Below.refl _ w).alloc (Nat.le_refl _) _).alloc (by simp) _
  rw [show (w.alloc (.cells #[.bool n1, .string a1, .string d1] 26)).heap.size = w.heap.size + 1 by simp] at hK2
  replace hK2 := Lib.hid hK2
  replace hBW := Lib.hid hBW
  replace hs1 := Lib.hid hs1
  replace hs2 := Lib.hid hs2
  replace hq1 := Lib.hid hq1
  replace hq2 := Lib.hid hq2
  go_enter Tryz.func109, Tryz.ntmps109
  go_wp2_with fail
  refine (small_any n1 a1 d1 _ z1 z2).mono ?_
  rintro en v1 ⟨rfl, hb⟩
  rw [hs1.out]
  have k2 := (Blk.below hK2.out hb).alloc (.cells #[.int .u64 (x1 : Int), .int .u64 (y1 : Int)] 144)
  have p1 := Blk.new v1 144 #[.int .u64 (x1 : Int), .int .u64 (y1 : Int)]
  have hB1 := hBW.out.trans (hb.mono (by simp; omega))
  replace hB1 := hB1.alloc hB1.size (.cells #[.int .u64 (x1 : Int), .int .u64 (y1 : Int)] 144)
  clear hb hK2 hBW
  go_upto_region 2 with fail
  generalize hv1 : v1.alloc (.cells #[.int .u64 (x1 : Int), .int .u64 (y1 : Int)] 144) = u1 at k2 p1 hB1 ⊢
  generalize hg1 : v1.heap.size = g1 at *
  have c0 : u1.cell? ⟨w.heap.size + 1, 0, none⟩ = some (.bool n2) := k2.cell 0
  have c1 : u1.cell? ⟨w.heap.size + 1, 1, none⟩ = some (.string a2) := k2.cell 1
  have c2 : u1.cell? ⟨w.heap.size + 1, 2, none⟩ = some (.string d2) := k2.cell 2
  replace p1 := Lib.hid p1
  replace hB1 := Lib.hid hB1
  clear hv1 hg1 k2
  go_wp2_with fail
  refine (small_any n2 a2 d2 _ z3 z4).mono ?_
  rintro en v2 ⟨rfl, hb⟩
  rw [hs2.out]
  have p1' := (Blk.below p1.out hb).alloc (.cells #[.int .u64 (x2 : Int), .int .u64 (y2 : Int)] 144)
  have p2 := Blk.new v2 144 #[.int .u64 (x2 : Int), .int .u64 (y2 : Int)]
  have hB2 := hB1.out.trans (hb.mono hB1.out.size)
  replace hB2 := hB2.alloc hB2.size (.cells #[.int .u64 (x2 : Int), .int .u64 (y2 : Int)] 144)
  clear hb p1 hB1 c0 c1 c2
  go_upto_region 3 with fail
  generalize hv2 : v2.alloc (.cells #[.int .u64 (x2 : Int), .int .u64 (y2 : Int)] 144) = u2 at p1' p2 hB2 ⊢
  generalize hg2 : v2.heap.size = g2 at *
  have d1a : u2.cell? ⟨g1, 0, none⟩ = some (.int .u64 (x1 : Int)) := p1'.cell 0
  have d1b : u2.cell? ⟨g1, 1, none⟩ = some (.int .u64 (y1 : Int)) := p1'.cell 1
  have d2a : u2.cell? ⟨g2, 0, none⟩ = some (.int .u64 (x2 : Int)) := p2.cell 0
  have d2b : u2.cell? ⟨g2, 1, none⟩ = some (.int .u64 (y2 : Int)) := p2.cell 1
  replace hB2 := Lib.hid hB2
  clear hv2 hg2 p1' p2
  cases h1 : okA n1 a1 d1
  · have hv : Hid (acmpV n1 a1 d1 n2 a2 d2 = .tuple #[.int .i64 0, .int .i64 210]) := Lib.hid (by simp [acmpV, h1])
    clear h1
    go_wp2_with fail
    go_ret2
    exact ⟨by rw [hv.out]; rfl, hB2.out⟩
  cases h2 : okA n2 a2 d2
  · have hv : Hid (acmpV n1 a1 d1 n2 a2 d2 = .tuple #[.int .i64 0, .int .i64 210]) := Lib.hid (by simp [acmpV, h2])
    clear h1 h2
    go_wp2_with fail
    go_ret2
    exact ⟨by rw [hv.out]; rfl, hB2.out⟩
  obtain ⟨ex1, ey1, k1, l1⟩ := hq1.out h1
  obtain ⟨ex2, ey2, k2, l2⟩ := hq2.out h2
  obtain ⟨X12, H12⟩ : ∃ X, X = x1 * y2 := ⟨_, rfl⟩
  have L12 : X12 < 18446744073709551616 := by rw [H12]; exact Nat.lt_of_le_of_lt (Nat.mul_le_mul (show x1 ≤ 2147483647 by omega) l2) (by omega)
  obtain ⟨X21, H21⟩ : ∃ X, X = x2 * y1 := ⟨_, rfl⟩
  have L21 : X21 < 18446744073709551616 := by rw [H21]; exact Nat.lt_of_le_of_lt (Nat.mul_le_mul (show x2 ≤ 2147483647 by omega) l1) (by omega)
  have hv : Hid (acmpV n1 a1 d1 n2 a2 d2 = .tuple #[.int .i64 (cmpN X12 X21), .int .i64 0]) := Lib.hid (by
    rw [H12, H21, ex1, ey1, ex2, ey2]; simp [acmpV, h1, h2])
  replace H12 := Lib.hid H12
  replace H21 := Lib.hid H21
  clear ex1 ey1 ex2 ey2 h1 h2
  go_wp2_with fail
  refine (compare_any x1 y1 x2 y2 X12 X21 _ H12 H21 L12 L21).mono ?_
  rintro en u3 ⟨rfl, hb⟩
  have hB3 := Lib.hid (hB2.out.trans (hb.mono hB2.out.size))
  clear hb d1a d1b d2a d2b
  go_wp2_with fail
  go_ret2
  exact ⟨by rw [hv.out]; rfl, hB3.out⟩
theorem nb_small {n k : Nat} (h : n < 256 ^ k) : (nb n).length ≤ k := by
  rcases Nat.eq_zero_or_pos n with rfl | h0
  · simp [nb_zero]
  · have hb := (nb_bounds h0).1
    rcases Nat.lt_or_ge k (nb n).length with hlt | hge
    · exfalso
      have : 256 ^ k ≤ 256 ^ ((nb n).length - 1) := Nat.pow_le_pow_right (by omega) (by omega)
      omega
    · exact hge
theorem okA_natS {n d : Nat} (hg : Nat.gcd n d = 1) (hlt : n < d) (hd : d ≤ 2147483647) : okA false (natS n) (natS d) = true := by
  have e1 : (nb n).length ≤ 8 := nb_small (by omega)
  have e2 : (nb d).length ≤ 8 := nb_small (by omega)
  have m1 := mayB_natS (n := n) (by omega)
  have m2 := mayB_natS (n := d) (by omega)
  simp [okA, ratioMay, smallB, m1, m2, be_natS, hg, hlt, hd, natS_size, e1, e2]
  omega
theorem kindF_add : ∀ (f n d c : Nat), 0 < n → n ≤ f → kindF f n d c = ((kindN n d).1 + c, (kindN n d).2) := by
  intro f
  induction f using Nat.strongRecOn with
  | ind f ih =>
    intro n d c h0 hf
    by_cases h1 : Nat.gcd n d = 1
    · rw [kindF_end h1, kindN, kindF_end h1]
      simp
    · obtain ⟨f', rfl⟩ : ∃ f', f = f' + 1 := ⟨f - 1, by omega⟩
      obtain ⟨n', hn'⟩ : ∃ n', n = n' + 1 := ⟨n - 1, by omega⟩
      have hg0 : 0 < Nat.gcd n d := Nat.gcd_pos_of_pos_left _ h0
      have hq : n / Nat.gcd n d < n := Nat.div_lt_self h0 (by omega)
      have hq0 : 0 < n / Nat.gcd n d := Nat.div_pos (Nat.gcd_le_left _ h0) hg0
      have hN : kindN n d = ((kindN (n / Nat.gcd n d) d).1 + 1, (kindN (n / Nat.gcd n d) d).2) := by
        have e : kindN n d = kindF (n' + 1) n d 0 := by rw [kindN]; congr 1
        rw [e, kindF_go h1]
        exact ih n' (by omega) _ d _ hq0 (by omega)
      rw [kindF_go h1, ih f' (by omega) _ d _ hq0 (by omega), hN]
      simp [Nat.add_assoc, Nat.add_comm]
theorem kindN_pos {n d : Nat} (h0 : 0 < n) : 1 ≤ (kindN n d).2 := by
  have : ∀ (f n c : Nat), 0 < n → 1 ≤ (kindF f n d c).2 := by
    intro f
    induction f with
    | zero => intro n c h; simp only [kindF]; exact (ordG_le h).1
    | succ f ih =>
      intro n c h
      simp only [kindF]
      split
      · exact (ordG_le h).1
      · exact ih _ _ (Nat.div_pos (Nat.gcd_le_left _ h) (Nat.gcd_pos_of_pos_left _ h))
  exact this n n 0 h0
theorem kindN_turn {n d : Nat} (h0 : 0 < n) : kindN (n / Nat.gcd n d) d = ((kindN n d).1 - 1, (kindN n d).2) := by
  by_cases h1 : Nat.gcd n d = 1
  · have e : kindN n d = (0, ordG n d) := kindF_end h1
    rw [h1, Nat.div_one, e]
    rfl
  · have hg0 : 0 < Nat.gcd n d := Nat.gcd_pos_of_pos_left _ h0
    have hq : n / Nat.gcd n d < n := Nat.div_lt_self h0 (by omega)
    have hq0 : 0 < n / Nat.gcd n d := Nat.div_pos (Nat.gcd_le_left _ h0) hg0
    obtain ⟨n', hn'⟩ : ∃ n', n = n' + 1 := ⟨n - 1, by omega⟩
    have hN : kindN n d = ((kindN (n / Nat.gcd n d) d).1 + 1, (kindN (n / Nat.gcd n d) d).2) := by
      have e : kindN n d = kindF (n' + 1) n d 0 := by rw [kindN]; congr 1
      rw [e, kindF_go h1]
      exact kindF_add n' _ d _ hq0 (by omega)
    rw [hN]
    simp
open Go.RowKit
theorem kindF_cnt : ∀ (f n d c : Nat), (kindF f n d c).1 ≤ c + f := by
  intro f
  induction f with
  | zero => intro n d c; simp [kindF]
  | succ f ih =>
    intro n d c
    simp only [kindF]
    split
    · simp
    · have := ih (n / Nat.gcd n d) d (c + 1); omega
end Go.Proofs.YtoaggmegmgdgbaaGreat
