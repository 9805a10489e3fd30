/- Package angle: compare, Between, Cmp. · Package angle: Between. · Package angle: Add. · Package angle: Check, Cmp. · What a turned angle's kind is: plain law. · filigreelaw21.AngleDen: the walk. -/
import Derived.Test.YtbddlbhanpjdnaaGreatDoorAngH
import Derived.BigQuiet
import Derived.Deep.CutBlock
import Derived.Lib.QuietBelow
import Derived.Test.YtbddlbhanpjdnaaGreatDoorAwakeA
namespace Go.Proofs.YtbddlbhanpjdnaaGreatDoor
open Go.RowKit

def cmpN (x y : Nat) : Int := if x < y then -1 else if y < x then 1 else 0

end Go.Proofs.YtbddlbhanpjdnaaGreatDoor

namespace Go.Proofs.YtbddlbhanpjdnaaGreatDoor
open Go.RowKit Go.Sort

theorem cmpN_neg {x y : Nat} : cmpN x y < 0 ↔ x < y := by unfold cmpN; split <;> (try split) <;> omega
theorem cmpN_pos {x y : Nat} : 0 < cmpN x y ↔ y < x := by unfold cmpN; split <;> (try split) <;> omega
theorem cmpN_zero {x y : Nat} : cmpN x y = 0 ↔ x = y := by unfold cmpN; split <;> (try split) <;> omega

theorem smallV_form (neg : Bool) (num den : ByteArray) : ∃ x y : Nat, smallV neg num den = .tuple #[.agg #[.int .u64 (x : Int), .int .u64 (y : Int)], .bool (okA neg num den)] ∧ (okA neg num den = true → x = be (sl num) ∧ y = be (sl den) ∧ x < y ∧ y ≤ 2147483647) := by
  cases h : okA neg num den
  · exact ⟨0, 0, smallV_no h, fun h => by simp at h⟩
  · obtain ⟨-, -, -, -, h1, h2⟩ := okA_spec h
    exact ⟨_, _, smallV_yes h, fun _ => ⟨rfl, rfl, h1, h2⟩⟩

/-- Is the second met on the way from the first to the third? -/
def betw (x1 y1 x2 y2 x3 y3 : Nat) : Bool :=
  if x1 * y3 < x3 * y1 then decide (x1 * y2 < x2 * y1) && decide (x2 * y3 < x3 * y2)
  else if x3 * y1 < x1 * y3 then decide (x1 * y2 < x2 * y1) || decide (x2 * y3 < x3 * y2)
  else !decide (x1 * y2 = x2 * y1)
/-- What Between tells. -/
def betweenV (n1 : Bool) (a1 d1 : ByteArray) (n2 : Bool) (a2 d2 : ByteArray) (n3 : Bool) (a3 d3 : ByteArray) : Value :=
  if okA n1 a1 d1 && okA n2 a2 d2 && okA n3 a3 d3 then .tuple #[.bool (betw (be (sl a1)) (be (sl d1)) (be (sl a2)) (be (sl d2)) (be (sl a3)) (be (sl d3))), .int .i64 0]
  else .tuple #[.bool false, .int .i64 210]

end Go.Proofs.YtbddlbhanpjdnaaGreatDoor

namespace Go.Proofs.YtbddlbhanpjdnaaGreatDoor
open Go.RowKit

def addX (x1 y1 x2 y2 : Nat) : Nat := (x1 * y2 + x2 * y1) % (y1 * y2)
/-- What Add tells. -/
def addV (n1 : Bool) (a1 d1 : ByteArray) (n2 : Bool) (a2 d2 : ByteArray) : Value :=
  if okA n1 a1 d1 && okA n2 a2 d2 then
    toldV (addX (be (sl a1)) (be (sl d1)) (be (sl a2)) (be (sl d2)) / Nat.gcd (addX (be (sl a1)) (be (sl d1)) (be (sl a2)) (be (sl d2))) (be (sl d1) * be (sl d2)))
      (be (sl d1) * be (sl d2) / Nat.gcd (addX (be (sl a1)) (be (sl d1)) (be (sl a2)) (be (sl d2))) (be (sl d1) * be (sl d2)))
  else .tuple #[rat0, .int .i64 210]

theorem toldV_form (n d : Nat) : ∃ s1 s2 e, toldV n d = .tuple #[.agg #[.bool false, .string s1, .string s2], .int .i64 e] := by
  unfold toldV ratV rat0
  split
  · exact ⟨_, _, _, rfl⟩
  · exact ⟨_, _, _, rfl⟩

end Go.Proofs.YtbddlbhanpjdnaaGreatDoor

namespace Go.Proofs.YtbddlbhanpjdnaaGreatDoor
open Go.RowKit

set_option maxRecDepth 100000 in
set_option maxHeartbeats 400000 in
/-- angle.Check -/
theorem check_any (n1 : Bool) (a1 d1 : ByteArray) (w : World) (z1 : a1.size ≤ 9223372036854775807) (z2 : d1.size ≤ 9223372036854775807) :
    Calls Tryz.prog 54 #[.agg #[.bool n1, .string a1, .string d1]] w (RetVal (.int .i64 (if okA n1 a1 d1 then 0 else 210)) w) := by
  obtain ⟨r, hr⟩ : ∃ r : Value, r = .int .i64 (if okA n1 a1 d1 then 0 else 210) := ⟨_, rfl⟩
  rw [← hr]
  replace hr := Lib.hid hr
  obtain ⟨x1, y1, hs1, -⟩ := smallV_form n1 a1 d1
  have hBW : Below w.heap.size w (w.alloc (.cells #[.bool n1, .string a1, .string d1] 24)) := (Below.refl _ w).alloc (Nat.le_refl _) _
  replace hBW := Lib.hid hBW
  replace hs1 := Lib.hid hs1
  go_enter Tryz.func54, Tryz.ntmps54
  go_wp2_with fail
  refine (small_any n1 a1 d1 _ z1 z2).mono ?_
  rintro en v1 ⟨rfl, hb⟩
  rw [hs1.out]
  have hB1 := hBW.out.trans (hb.mono (by simp))
  replace hB1 := hB1.alloc hB1.size (.cells #[.int .u64 (x1 : Int), .int .u64 (y1 : Int)] 101)
  clear hb hBW
  go_upto_region 2 with fail
  generalize hv1 : v1.alloc (.cells #[.int .u64 (x1 : Int), .int .u64 (y1 : Int)] 101) = u1 at hB1 ⊢
  replace hB1 := Lib.hid hB1
  clear hv1
  cases h1 : okA n1 a1 d1
  · have hv : Hid (r = .int .i64 210) := Lib.hid (by rw [hr.out, h1]; rfl)
    go_wp2_with fail
    go_ret
    exact ⟨by rw [hv.out]; rfl, hB1.out⟩
  · have hv : Hid (r = .int .i64 0) := Lib.hid (by rw [hr.out, h1]; rfl)
    go_wp2_with fail
    go_ret
    exact ⟨by rw [hv.out]; rfl, hB1.out⟩

/-- What Cmp tells. -/
def acmpV (n1 : Bool) (a1 d1 : ByteArray) (n2 : Bool) (a2 d2 : ByteArray) : Value :=
  if okA n1 a1 d1 && okA n2 a2 d2 then .tuple #[.int .i64 (cmpN (be (sl a1) * be (sl d2)) (be (sl a2) * be (sl d1))), .int .i64 0]
  else .tuple #[.int .i64 0, .int .i64 210]

end Go.Proofs.YtbddlbhanpjdnaaGreatDoor

namespace Go.Proofs.YtbddlbhanpjdnaaGreatDoor

theorem nb_small {n k : Nat} (h : n < 256 ^ k) : (nb n).length ≤ k := by
  rcases Nat.eq_zero_or_pos n with rfl | h0
  · simp [nb_zero]
  · have hb := (nb_bounds h0).1
    rcases Nat.lt_or_ge k (nb n).length with hlt | hge
    · exfalso
      have : 256 ^ k ≤ 256 ^ ((nb n).length - 1) := Nat.pow_le_pow_right (by omega) (by omega)
      omega
    · exact hge

theorem okA_natS {n d : Nat} (hg : Nat.gcd n d = 1) (hlt : n < d) (hd : d ≤ 2147483647) : okA false (natS n) (natS d) = true := by
  have e1 : (nb n).length ≤ 8 := nb_small (by omega)
  have e2 : (nb d).length ≤ 8 := nb_small (by omega)
  have m1 := mayB_natS (n := n) (by omega)
  have m2 := mayB_natS (n := d) (by omega)
  simp [okA, ratioMay, smallB, m1, m2, be_natS, hg, hlt, hd, natS_size, e1, e2]
  omega

theorem kindF_add : ∀ (f n d c : Nat), 0 < n → n ≤ f → kindF f n d c = ((kindN n d).1 + c, (kindN n d).2) := by
  intro f
  induction f using Nat.strongRecOn with
  | ind f ih =>
    intro n d c h0 hf
    by_cases h1 : Nat.gcd n d = 1
    · rw [kindF_end h1, kindN, kindF_end h1]
      simp
    · obtain ⟨f', rfl⟩ : ∃ f', f = f' + 1 := ⟨f - 1, by omega⟩
      obtain ⟨n', hn'⟩ : ∃ n', n = n' + 1 := ⟨n - 1, by omega⟩
      have hg0 : 0 < Nat.gcd n d := Nat.gcd_pos_of_pos_left _ h0
      have hq : n / Nat.gcd n d < n := Nat.div_lt_self h0 (by omega)
      have hq0 : 0 < n / Nat.gcd n d := Nat.div_pos (Nat.gcd_le_left _ h0) hg0
      have hN : kindN n d = ((kindN (n / Nat.gcd n d) d).1 + 1, (kindN (n / Nat.gcd n d) d).2) := by
        have e : kindN n d = kindF (n' + 1) n d 0 := by rw [kindN]; congr 1
        rw [e, kindF_go h1]
        exact ih n' (by omega) _ d _ hq0 (by omega)
      rw [kindF_go h1, ih f' (by omega) _ d _ hq0 (by omega), hN]
      simp [Nat.add_assoc, Nat.add_comm]

theorem kindN_pos {n d : Nat} (h0 : 0 < n) : 1 ≤ (kindN n d).2 := by
  have : ∀ (f n c : Nat), 0 < n → 1 ≤ (kindF f n d c).2 := by
    intro f
    induction f with
    | zero => intro n c h; simp only [kindF]; exact (ordG_le h).1
    | succ f ih =>
      intro n c h
      simp only [kindF]
      split
      · exact (ordG_le h).1
      · exact ih _ _ (Nat.div_pos (Nat.gcd_le_left _ h) (Nat.gcd_pos_of_pos_left _ h))
  exact this n n 0 h0

/-- Turned once: the period stays, the preperiod is one less. -/
theorem kindN_turn {n d : Nat} (h0 : 0 < n) : kindN (n / Nat.gcd n d) d = ((kindN n d).1 - 1, (kindN n d).2) := by
  by_cases h1 : Nat.gcd n d = 1
  · have e : kindN n d = (0, ordG n d) := kindF_end h1
    rw [h1, Nat.div_one, e]
    rfl
  · have hg0 : 0 < Nat.gcd n d := Nat.gcd_pos_of_pos_left _ h0
    have hq : n / Nat.gcd n d < n := Nat.div_lt_self h0 (by omega)
    have hq0 : 0 < n / Nat.gcd n d := Nat.div_pos (Nat.gcd_le_left _ h0) hg0
    obtain ⟨n', hn'⟩ : ∃ n', n = n' + 1 := ⟨n - 1, by omega⟩
    have hN : kindN n d = ((kindN (n / Nat.gcd n d) d).1 + 1, (kindN (n / Nat.gcd n d) d).2) := by
      have e : kindN n d = kindF (n' + 1) n d 0 := by rw [kindN]; congr 1
      rw [e, kindF_go h1]
      exact kindF_add n' _ d _ hq0 (by omega)
    rw [hN]
    simp

/-- The denominator of the turned angle. -/
theorem turn_den {x y d : Nat} (hg : Nat.gcd x y = 1) : Nat.gcd (turnX x y d 1) y = Nat.gcd y d := by
  unfold turnX
  rw [Nat.pow_one, Nat.mul_mod, Nat.mod_mod, ← Nat.mul_mod]
  rw [← Nat.gcd_rec, Nat.gcd_comm y, Nat.gcd_comm y]
  exact Nat.Coprime.gcd_mul_left_cancel d hg

end Go.Proofs.YtbddlbhanpjdnaaGreatDoor

namespace Go.Proofs.YtbddlbhanpjdnaaGreatDoor
open Go.RowKit

theorem kindV_form (neg : Bool) (num den : ByteArray) (d : Int) : ∃ p n e : Int, kindV neg num den d = .tuple #[.int .i64 p, .int .i64 n, .int .i64 e] ∧ (e = 0 → okA neg num den = true ∧ roundB d = true ∧ p = ((kindN (be (sl den)) d.toNat).1 : Int) ∧ n = ((kindN (be (sl den)) d.toNat).2 : Int)) := by
  unfold kindV
  cases okA neg num den
  · exact ⟨_, _, _, rfl, fun h => by simp at h⟩
  · cases roundB d
    · exact ⟨_, _, _, rfl, fun h => by simp at h⟩
    · exact ⟨_, _, _, rfl, fun _ => ⟨rfl, rfl, rfl, rfl⟩⟩

/-- The turned angle and its kind. -/
theorem turned {neg : Bool} {num den : ByteArray} {d : Int} (ha : okA neg num den = true) (hr : roundB d = true) (h0 : 0 < be (sl den)) :
    ∃ s1 s2 : ByteArray, turnsV neg num den d 1 = .tuple #[.agg #[.bool false, .string s1, .string s2], .int .i64 0] ∧ s1.size ≤ 9223372036854775807 ∧ s2.size ≤ 9223372036854775807 ∧
      kindV false s1 s2 d = .tuple #[.int .i64 (((kindN (be (sl den)) d.toNat).1 - 1 : Nat) : Int), .int .i64 ((kindN (be (sl den)) d.toNat).2 : Int), .int .i64 0] := by
  obtain ⟨-, -, -, hg, hlt, hd⟩ := okA_spec ha
  obtain ⟨x, hx⟩ : ∃ x, x = be (sl num) := ⟨_, rfl⟩
  obtain ⟨y, hy⟩ : ∃ y, y = be (sl den) := ⟨_, rfl⟩
  rw [← hx, ← hy] at hg hlt
  rw [← hy] at hd h0
  obtain ⟨X, hX⟩ : ∃ X, X = turnX x y d.toNat 1 := ⟨_, rfl⟩
  have hgd : Nat.gcd X y = Nat.gcd y d.toNat := by rw [hX]; exact turn_den hg
  have hXy : X < y := by rw [hX]; exact Nat.mod_lt _ h0
  obtain ⟨g, hgg⟩ : ∃ g, g = Nat.gcd X y := ⟨_, rfl⟩
  have hg0 : 0 < g := by rw [hgg]; exact Nat.gcd_pos_of_pos_right _ h0
  have c1 : Nat.gcd (X / g) (y / g) = 1 := by
    rw [Nat.gcd_div (by rw [hgg]; exact Nat.gcd_dvd_left _ _) (by rw [hgg]; exact Nat.gcd_dvd_right _ _), ← hgg]
    exact Nat.div_self hg0
  have c2 : X / g < y / g := Nat.div_lt_div_of_lt_of_dvd (by rw [hgg]; exact Nat.gcd_dvd_right _ _) hXy
  have c3 : y / g ≤ 2147483647 := Nat.le_trans (Nat.div_le_self _ _) hd
  have hok := okA_natS c1 c2 c3
  have z : ∀ n, n ≤ 2147483647 → (natS n).size ≤ 9223372036854775807 := fun n hn => by
    rw [natS_size]
    have := nb_small (n := n) (k := 8) (by omega)
    omega
  refine ⟨natS (X / g), natS (y / g), ?_, z _ (by omega), z _ c3, ?_⟩
  · unfold turnsV
    rw [ha, hr, ← hx, ← hy, show (1 : Int).toNat = 1 from rfl, ← hX, ← hgg]
    rfl
  · unfold kindV
    rw [hok, hr, be_natS, hgg, hgd, kindN_turn h0, ← hy]
    rfl

theorem kindF_cnt : ∀ (f n d c : Nat), (kindF f n d c).1 ≤ c + f := by
  intro f
  induction f with
  | zero => intro n d c; simp [kindF]
  | succ f ih =>
    intro n d c
    simp only [kindF]
    split
    · simp
    · have := ih (n / Nat.gcd n d) d (c + 1); omega

theorem max_pre {A : Nat} (h : A ≤ 2147483647) : (((A - 1 : Nat) : Int) == max 0 (wrap64 ((A : Int) - 1))) = true := by
  have hw : wrap64 ((A : Int) - 1) = (A : Int) - 1 := by unfold wrap64; omega
  rw [hw]
  simp
  omega

end Go.Proofs.YtbddlbhanpjdnaaGreatDoor
