/- Preimages: the plain lists; the document's answer: Round, Turn, Turns. · Preimages: angle.Back, filigreeref21.Back. · Preimages: angle.Back. · filigreelaw21.same: two lists that tell the same. -/
import Derived.Test.YtbddlbhanpjdnaaDoorRefA
import Derived.Deep.CutBlock
import Derived.Test.YtbddlbhanpjdnaaDoorAngN
namespace Go.Proofs.YtbddlbhanpjdnaaDoor
open Go.RowKit

/-- The k-th preimage of x over y, in lowest terms. -/
def bkN (x y d k : Nat) : Nat × Nat := ((x + k * y) / Nat.gcd (x + k * y) (y * d), y * d / Nat.gcd (x + k * y) (y * d))
def backL (x y d : Nat) : List (Nat × Nat) := (List.range d).map (bkN x y d)
theorem backL_len (x y d : Nat) : (backL x y d).length = d := by simp [backL]
theorem backL_get {x y d k : Nat} (h : k < d) : (backL x y d)[k]? = some (bkN x y d k) := by simp [backL, h]
def backOk (x y d : Nat) : Bool := (backL x y d).all fun p => decide (p.2 ≤ 2147483647)

/-- Parts as ratios' cells, as angles' cells. -/
def ratC (L : List (Nat × Nat)) : List Value := L.flatMap fun x => [.bool false, .string (natS x.1), .string (natS x.2)]
def angC (L : List (Nat × Nat)) : List Value := L.flatMap fun x => [.int .u64 (x.1 : Int), .int .u64 (x.2 : Int)]
theorem ratC_snoc (L : List (Nat × Nat)) (p : Nat × Nat) : ratC (L ++ [p]) = ratC L ++ [.bool false, .string (natS p.1), .string (natS p.2)] := by simp [ratC]
theorem angC_snoc (L : List (Nat × Nat)) (p : Nat × Nat) : angC (L ++ [p]) = angC L ++ [.int .u64 (p.1 : Int), .int .u64 (p.2 : Int)] := by simp [angC]
theorem ratC_len (L : List (Nat × Nat)) : (ratC L).length = L.length * 3 := by
  induction L with
  | nil => rfl
  | cons x L ih =>
    have : ratC (x :: L) = [.bool false, .string (natS x.1), .string (natS x.2)] ++ ratC L := by simp [ratC]
    rw [this, List.length_append, ih]
    simp
    omega
theorem angC_len (L : List (Nat × Nat)) : (angC L).length = L.length * 2 := by
  induction L with
  | nil => rfl
  | cons x L ih =>
    have : angC (x :: L) = [.int .u64 (x.1 : Int), .int .u64 (x.2 : Int)] ++ angC L := by simp [angC]
    rw [this, List.length_append, ih]
    simp
    omega
theorem ratC_get : ∀ (L : List (Nat × Nat)) (j : Nat) (p : Nat × Nat), L[j]? = some p → (ratC L)[j * 3]? = some (.bool false) ∧ (ratC L)[j * 3 + 1]? = some (.string (natS p.1)) ∧ (ratC L)[j * 3 + 2]? = some (.string (natS p.2))
  | [], j, p, h => by simp at h
  | x :: L, 0, p, h => by
    simp at h; subst h
    have : ratC (x :: L) = [.bool false, .string (natS x.1), .string (natS x.2)] ++ ratC L := by simp [ratC]
    rw [this]
    simp
  | x :: L, j + 1, p, h => by
    have : ratC (x :: L) = [.bool false, .string (natS x.1), .string (natS x.2)] ++ ratC L := by simp [ratC]
    rw [this]
    have ih := ratC_get L j p (by simpa using h)
    rw [List.getElem?_append_right (by simp; omega), List.getElem?_append_right (by simp; omega), List.getElem?_append_right (by simp; omega)]
    simp only [List.length_cons, List.length_nil]
    rw [show (j + 1) * 3 - (0 + 1 + 1 + 1) = j * 3 by omega, show (j + 1) * 3 + 1 - (0 + 1 + 1 + 1) = j * 3 + 1 by omega, show (j + 1) * 3 + 2 - (0 + 1 + 1 + 1) = j * 3 + 2 by omega]
    exact ih
theorem angC_get : ∀ (L : List (Nat × Nat)) (j : Nat) (p : Nat × Nat), L[j]? = some p → (angC L)[j * 2]? = some (.int .u64 (p.1 : Int)) ∧ (angC L)[j * 2 + 1]? = some (.int .u64 (p.2 : Int))
  | [], j, p, h => by simp at h
  | x :: L, 0, p, h => by
    simp at h; subst h
    have : angC (x :: L) = [.int .u64 (x.1 : Int), .int .u64 (x.2 : Int)] ++ angC L := by simp [angC]
    rw [this]
    simp
  | x :: L, j + 1, p, h => by
    have : angC (x :: L) = [.int .u64 (x.1 : Int), .int .u64 (x.2 : Int)] ++ angC L := by simp [angC]
    rw [this]
    have ih := angC_get L j p (by simpa using h)
    rw [List.getElem?_append_right (by simp; omega), List.getElem?_append_right (by simp; omega)]
    simp only [List.length_cons, List.length_nil]
    rw [show (j + 1) * 2 - (0 + 1 + 1) = j * 2 by omega, show (j + 1) * 2 + 1 - (0 + 1 + 1) = j * 2 + 1 by omega]
    exact ih

theorem own_below {w w' : World} {base : Nat} {T : TypeId} {size : Nat} {v : Value} {n : Nat} {xs : List Value} (h : w.ownsRow base T size v n xs) (hb : Below w.heap.size w w') : w'.ownsRow base T size v n xs := by
  obtain ⟨hl, hc⟩ := h
  refine ⟨hl, ?_⟩
  rcases hc with hc | ⟨g, cap, cur, hv, hbase, hg, rest⟩
  · exact .inl hc
  · have hlt : g < w.heap.size := by
      rcases Nat.lt_or_ge g w.heap.size with h | h
      · exact h
      · rw [Array.getElem?_eq_none h] at hg; cases hg
    exact .inr ⟨g, cap, cur, hv, hbase, (hb.block g hlt).trans hg, rest⟩

/-- The outcome: a row of the call's own, and an error's number. -/
def RetRow (T : TypeId) (size : Nat) (c : Int) (n : Nat) (xs : List Value) (w : World) (e : Ending) (w' : World) : Prop :=
  ∃ v, e = .returned (.tuple #[v, .int .i64 c]) ∧ w'.ownsRow w.heap.size T size v n xs ∧ Below w.heap.size w w'

end Go.Proofs.YtbddlbhanpjdnaaDoor

namespace Go.Proofs.YtbddlbhanpjdnaaDoor
open Go.RowKit

theorem own_le {w : World} {base base' : Nat} {T : TypeId} {size : Nat} {v : Value} {n : Nat} {xs : List Value} (h : w.ownsRow base T size v n xs) (hb : base' ≤ base) : w.ownsRow base' T size v n xs := by
  obtain ⟨hl, hc⟩ := h
  refine ⟨hl, ?_⟩
  rcases hc with hc | ⟨g, cap, cur, hv, hbase, rest⟩
  · exact .inl hc
  · exact .inr ⟨g, cap, cur, hv, Nat.le_trans hb hbase, rest⟩

theorem info_ratio : (Tryd.prog.info? 25).map (fun i => (i.zero, i.size, i.bytes)) = some (some (.agg #[.bool false, .string ⟨#[]⟩, .string ⟨#[]⟩]), 3, 40) := by kernel_rfl
/-- The error's number and the list of the preimages. -/
def backE (x y d : Nat) : Int := if backOk x y d then 0 else 210
def backR (x y d : Nat) : List (Nat × Nat) := if backOk x y d then backL x y d else []

theorem backOk_no {x y d k : Nat} (h : k < d) (hd : ¬ (bkN x y d k).2 ≤ 2147483647) : backOk x y d = false := by
  unfold backOk
  rw [List.all_eq_false]
  exact ⟨_, List.mem_of_getElem? (backL_get h), by simpa using hd⟩
theorem backOk_yes {x y d : Nat} (h : ∀ k, k < d → (bkN x y d k).2 ≤ 2147483647) : backOk x y d = true := by
  unfold backOk
  rw [List.all_eq_true]
  intro p hp
  obtain ⟨k, hk, rfl⟩ := List.mem_map.1 hp
  simpa using h k (List.mem_range.1 hk)
theorem backL_take {x y d k : Nat} (h : k < d) : (backL x y d).take (k + 1) = (backL x y d).take k ++ [bkN x y d k] := by
  have hlt : k < (backL x y d).length := by rw [backL_len]; exact h
  have e : (backL x y d)[k] = bkN x y d k := by
    have := backL_get (x := x) (y := y) h
    rw [List.getElem?_eq_getElem hlt] at this
    exact Option.some.inj this
  rw [List.take_succ_eq_append_getElem hlt, e]

end Go.Proofs.YtbddlbhanpjdnaaDoor

namespace Go.Proofs.YtbddlbhanpjdnaaDoor
open Go.RowKit

def abackE (neg : Bool) (num den : ByteArray) (d : Int) : Int := if okA neg num den then if roundB d then backE (be (sl num)) (be (sl den)) d.toNat else 2 else 210
def abackR (neg : Bool) (num den : ByteArray) (d : Int) : List (Nat × Nat) := if okA neg num den then if roundB d then backR (be (sl num)) (be (sl den)) d.toNat else [] else []

set_option maxRecDepth 100000 in
set_option maxHeartbeats 2000000 in
/-- angle.Back -/
theorem aback_any (neg : Bool) (num den : ByteArray) (d : Int) (w : World) (z1 : num.size ≤ 9223372036854775807) (z2 : den.size ≤ 9223372036854775807) :
    Calls Tryd.prog 34 #[.agg #[.bool neg, .string num, .string den], .int .i64 d] w (RetRow 25 3 (abackE neg num den d) (abackR neg num den d).length (ratC (abackR neg num den d)) w) := by
  obtain ⟨i0, hi, hz0, hz1, hz2⟩ := info_parts info_ratio
  obtain ⟨x, y, hs1, hq1⟩ := smallV_form neg num den
  obtain ⟨E, hE⟩ : ∃ E, E = abackE neg num den d := ⟨_, rfl⟩
  obtain ⟨R, hR⟩ : ∃ R, R = abackR neg num den d := ⟨_, rfl⟩
  rw [← hE, ← hR]
  have hBW : Below w.heap.size w (w.alloc (.cells #[.bool neg, .string num, .string den] 25)) := (Below.refl _ w).alloc (Nat.le_refl _) _
  have hz : (w.alloc (.cells #[.bool neg, .string num, .string den] 25)).heap.size = w.heap.size + 1 := by simp
  replace hE := Lib.hid hE
  replace hR := Lib.hid hR
  replace hBW := Lib.hid hBW
  replace hs1 := Lib.hid hs1
  replace hq1 := Lib.hid hq1
  replace hz := Lib.hid hz
  go_enter Tryd.func34, Tryd.ntmps34
  go_wp2_with fail
  refine (small_any neg num den _ z1 z2).mono ?_
  rintro e v1 ⟨rfl, hb⟩
  rw [hs1.out]
  have kp := Blk.new v1 77 #[.int .u64 (x : Int), .int .u64 (y : Int)]
  have hB1 := hBW.out.trans (hb.mono hBW.out.size)
  have hgs : w.heap.size ≤ v1.heap.size := hB1.size
  replace hB1 := hB1.alloc hB1.size (.cells #[.int .u64 (x : Int), .int .u64 (y : Int)] 77)
  clear hb hBW hz
  go_upto_region 2 with fail
  generalize hv1 : v1.alloc (.cells #[.int .u64 (x : Int), .int .u64 (y : Int)] 77) = u at kp hB1 ⊢
  generalize hgp : v1.heap.size = gp at *
  replace kp := Lib.hid kp
  replace hB1 := Lib.hid hB1
  clear hv1 hgp
  cases hok : okA neg num den
  · have hEv : E = 210 := by rw [hE.out]; simp [abackE, hok]
    have hRv : R = [] := by rw [hR.out]; simp [abackR, hok]
    subst hEv hRv
    clear hE hR hq1 hok
    go_wp2_with fail
    go_ret2
    exact ⟨_, rfl, World.ownsRow_nil _ _ _ _, hB1.out⟩
  cases hr : roundB d
  · have hEv : E = 2 := by rw [hE.out]; simp [abackE, hok, hr]
    have hRv : R = [] := by rw [hR.out]; simp [abackR, hok, hr]
    subst hEv hRv
    replace hr := Lib.hid hr
    clear hE hR hq1 hok
    go_wp2_with fail
    refine (aturns_any d _).mono ?_
    rintro e v2 ⟨rfl, rfl⟩
    rw [hr.out]
    go_wp2_with fail
    go_ret2
    exact ⟨_, rfl, World.ownsRow_nil _ _ _ _, hB1.out⟩
  obtain ⟨ex, ey, k1, l⟩ := hq1.out hok
  have hd := roundB_iff.1 hr
  obtain ⟨dn, rfl⟩ := Int.eq_ofNat_of_zero_le (show 0 ≤ d by omega)
  have hE2 : E = backE x y dn := by rw [hE.out, ex, ey]; simp [abackE, hok, hr]
  have hR2 : R = backR x y dn := by rw [hR.out, ex, ey]; simp [abackR, hok, hr]
  replace hE := Lib.hid hE2
  replace hR := Lib.hid hR2
  have hdI : (2 : Int) ≤ (dn : Int) := hd.1
  have hdI2 : (dn : Int) ≤ 64 := hd.2
  have wd : IntKind.u64.wrap (dn : Int) = (dn : Int) := by rw [IntKind.wrap_u64]; omega
  replace hr := Lib.hid hr
  clear hE2 hR2 hok ex ey hd hq1 hs1
  go_wp2_with fail
  refine (aturns_any (dn : Int) _).mono ?_
  rintro e v2 ⟨rfl, rfl⟩
  rw [hr.out]
  go_wp2_with fail
  go_loopw [8, 24] (fun v kk wr => ∃ k : Nat, kk = .int .u64 (k : Int) ∧ k ≤ dn ∧ (∀ j, j < k → (bkN x y dn j).2 ≤ 2147483647) ∧ wr.ownsRow (gp + 1) 25 3 v k (ratC ((backL x y dn).take k)) ∧ Blk wr gp 77 #[.int .u64 (x : Int), .int .u64 (y : Int)] ∧ Below w.heap.size w wr) (fun _ kk _ => dn - (intOf kk).toNat)
  case atStart => exact ⟨0, rfl, Nat.zero_le _, fun j hj => absurd hj (by omega), World.ownsRow_nil _ _ _ _, kp.out, hB1.out⟩
  case round =>
    obtain ⟨k, rfl, hk, hall, hown, hp, hB⟩ := hrel
    replace hall := Lib.hid hall
    replace hown := Lib.hid hown
    replace hB := Lib.hid hB
    by_cases h0 : k < dn
    · have h0I : (k : Int) < (dn : Int) := by omega
      have c0 : wr.cell? ⟨gp, 0, none⟩ = some (.int .u64 (x : Int)) := hp.cell 0
      have c1 : wr.cell? ⟨gp, 1, none⟩ = some (.int .u64 (y : Int)) := hp.cell 1
      replace hp := Lib.hid hp
      obtain ⟨P, hP⟩ : ∃ P, P = k * y := ⟨_, rfl⟩
      have hPs : P ≤ 64 * 2147483647 := by rw [hP]; exact Nat.mul_le_mul (by omega) l
      have hPi : (k : Int) * (y : Int) = (P : Int) := by rw [hP]; push_cast; rfl
      obtain ⟨S, hS⟩ : ∃ S, S = x + P := ⟨_, rfl⟩
      have hSi : (x : Int) + (P : Int) = (S : Int) := by rw [hS]; push_cast; rfl
      obtain ⟨Y, hY⟩ : ∃ Y, Y = y * dn := ⟨_, rfl⟩
      have hYs : Y ≤ 2147483647 * 64 := by rw [hY]; exact Nat.mul_le_mul l (show dn ≤ 64 by omega)
      have hYi : (y : Int) * (dn : Int) = (Y : Int) := by rw [hY]; push_cast; rfl
      have hY0 : 0 < Y := by rw [hY]; exact Nat.mul_pos (by omega) (by omega)
      have hSY : S < Y := by
        have h1 : (k + 1) * y ≤ dn * y := Nat.mul_le_mul_right y h0
        rw [Nat.add_mul, Nat.one_mul, ← hP, Nat.mul_comm dn, ← hY] at h1
        omega
      obtain ⟨N, hN⟩ : ∃ N, N = S / Nat.gcd S Y := ⟨_, rfl⟩
      obtain ⟨D, hD⟩ : ∃ D, D = Y / Nat.gcd S Y := ⟨_, rfl⟩
      have hbk : bkN x y dn k = (N, D) := by rw [hN, hD, hS, hY, hP]; rfl
      have b1 : Hid (S < 18446744073709551616) := Lib.hid (by omega)
      have b2 : Hid (Y < 18446744073709551616) := Lib.hid (by omega)
      have hDs : D ≤ Y := by rw [hD]; exact Nat.div_le_self _ _
      have hNs : N ≤ S := by rw [hN]; exact Nat.div_le_self _ _
      have b3 : Hid (N < 18446744073709551616) := Lib.hid (by omega)
      have b4 : Hid (D < 18446744073709551616) := Lib.hid (by omega)
      have wP : IntKind.u64.wrap (P : Int) = (P : Int) := by rw [IntKind.wrap_u64]; omega
      have wS : IntKind.u64.wrap (S : Int) = (S : Int) := by rw [IntKind.wrap_u64]; omega
      have wY : IntKind.u64.wrap (Y : Int) = (Y : Int) := by rw [IntKind.wrap_u64]; omega
      replace hbk := Lib.hid hbk
      replace hN := Lib.hid hN
      replace hD := Lib.hid hD
      replace hY0 := Lib.hid hY0
      clear hP hS hY hSY
      obtain ⟨wo, rfl⟩ : ∃ wo : World, wo = wr := ⟨_, rfl⟩
      go_wp2_with fail
      refine (lowest_any S Y N D _ b1.out b2.out hY0.out hN hD).mono ?_
      rintro e v1 ⟨rfl, hb⟩
      replace hown := Lib.hid (own_below hown.out hb)
      replace hp := Lib.hid (Blk.below hp.out hb)
      replace hB := Lib.hid (hB.out.trans (hb.mono hB.out.size))
      clear hb c0 c1 hPi hSi hYi wP wS wY
      obtain ⟨t1, t2, tc, ht⟩ := toldV_form N D
      have ht2 : tc = (if D ≤ 2147483647 then 0 else 210) ∧ (D ≤ 2147483647 → t1 = natS N ∧ t2 = natS D) := by
        unfold toldV at ht
        split at ht
        · rename_i h
          simp only [ratV, Value.tuple.injEq, Array.mk.injEq, List.cons.injEq, Value.agg.injEq, Value.string.injEq, Value.int.injEq, true_and, and_true] at ht
          obtain ⟨⟨h1, h2⟩, h3⟩ := ht
          rw [if_pos h]
          exact ⟨h3.symm, fun _ => ⟨h1.symm, h2.symm⟩⟩
        · rename_i h
          simp only [rat0, Value.tuple.injEq, Array.mk.injEq, List.cons.injEq, Value.agg.injEq, Value.string.injEq, Value.int.injEq, true_and, and_true] at ht
          rw [if_neg h]
          exact ⟨ht.2.symm, fun h' => absurd h' h⟩
      replace ht := Lib.hid ht
      replace ht2 := Lib.hid ht2
      go_wp2_with fail
      refine (told_any N D _ b3.out b4.out).mono ?_
      rintro e v1 ⟨rfl, hb⟩
      rw [ht.out]
      have hown1 := (own_below hown.out hb).alloc (.cells #[.bool false, .string t1, .string t2] 25)
      have hp1 := (Blk.below hp.out hb).alloc (.cells #[.bool false, .string t1, .string t2] 25)
      have hq := Blk.new v1 25 #[.bool false, .string t1, .string t2]
      replace hB1 := hB.out.trans (hb.mono hB.out.size)
      replace hB1 := hB1.alloc hB1.size (.cells #[.bool false, .string t1, .string t2] 25)
      clear hb hp hB hown
      go_upto_region 11 with fail
      generalize hv2 : v1.alloc (.cells #[.bool false, .string t1, .string t2] 25) = v2 at hown1 hp1 hq hB1 ⊢
      generalize hg : v1.heap.size = g at *
      have d0 : v2.cell? ⟨g, 0, none⟩ = some (.bool false) := hq.cell 0
      have d1 : v2.cell? ⟨g, 1, none⟩ = some (.string t1) := hq.cell 1
      have d2 : v2.cell? ⟨g, 2, none⟩ = some (.string t2) := hq.cell 2
      clear hv2 hg hq
      replace hown1 := Lib.hid hown1
      replace hp1 := Lib.hid hp1
      replace hB1 := Lib.hid hB1
      by_cases hle : D ≤ 2147483647
      · have hct := ht2.out.1
        rw [if_pos hle] at hct
        subst hct
        obtain ⟨et1, et2⟩ := ht2.out.2 hle
        subst et1 et2
        have hall2 : Hid (∀ j, j < k + 1 → (bkN x y dn j).2 ≤ 2147483647) := Lib.hid (fun j hj => by
          by_cases hjk : j = k
          · subst hjk; rw [hbk.out]; exact hle
          · exact hall.out j (by omega))
        have htk : Hid (ratC ((backL x y dn).take (k + 1)) = ratC ((backL x y dn).take k) ++ [.bool false, .string (natS N), .string (natS D)]) := Lib.hid (by
          rw [backL_take h0, ratC_snoc, hbk.out])
        clear hle hDs hall ht ht2
        go_wp2_with (at_builtin; refine wpList_append_own _ rfl _ _ 68 rfl (gp + 1) 25 i0 (.agg #[.bool false, .string ⟨#[]⟩, .string ⟨#[]⟩]) 3 40 Tryd.underlying68 hi hz0 hz1 hz2 rfl (by decide) _ _ _ rfl (hown1.out.alloc _) ⟨v2.heap.size, 0, none⟩ 1 1 [.bool false, .string (natS N), .string (natS D)] rfl rfl ?d1 ?d2 ?d3 ?d4 ?d5 ?_)
        case d1 =>
          intro j u hj
          match j, hj with
          | 0, hj => simp at hj; subst hj; simp [Addr.add]
          | 1, hj => simp at hj; subst hj; simp [Addr.add]
          | 2, hj => simp at hj; subst hj; simp [Addr.add]
        case d2 => intro u hu; simp at hu; rcases hu with rfl | rfl | rfl <;> rfl
        case d3 => unfold maxLen; omega
        case d4 => omega
        case d5 => have := hp1.out.lt; simp; omega
        intro v' w3 hown' hgrow _
        have hB3 : Below w.heap.size w w3 := (hB1.out.alloc hB1.out.size _).grown hgrow (by have := hB1.out.size; simp; omega) (fun k hk => by have := (hown1.out.lt k hk).1; omega)
        have hp3 : Blk w3 gp 77 #[.int .u64 (x : Int), .int .u64 (y : Int)] := Blk.grown (hp1.out.alloc _) hgrow (fun e => by have := (hown1.out.lt _ e.symm).1; omega)
        rw [← htk.out] at hown'
        replace hown' := Lib.hid hown'
        replace hp3 := Lib.hid hp3
        replace hB3 := Lib.hid hB3
        clear hgrow hown1 hp1 hB1 d0 d1 d2 htk
        go_wp2
        go_roundw
        case rel => exact ⟨k + 1, by go_num, by omega, hall2.out, hown'.out, hp3.out, hB3.out⟩
        case measure => simp [intOf]; omega
      · have hct := ht2.out.1
        rw [if_neg hle] at hct
        subst hct
        have hno := backOk_no h0 (by rw [hbk.out]; exact hle)
        have hEv : E = 210 := by rw [hE.out]; unfold backE; rw [hno]; rfl
        have hRv : R = [] := by rw [hR.out]; unfold backR; rw [hno]; rfl
        subst hEv hRv
        clear hle hDs hno ht ht2
        go_wp2_with fail
        go_ret2
        exact ⟨_, rfl, World.ownsRow_nil _ _ _ _, hB1.out⟩
    · obtain rfl : k = dn := by omega
      have hyes := backOk_yes hall.out
      have hEv : E = 0 := by rw [hE.out]; unfold backE; rw [hyes]; rfl
      have hRv : Hid (R = backL x y k) := Lib.hid (by rw [hR.out]; unfold backR; rw [hyes]; rfl)
      subst hEv
      have hown2 := hown.out
      rw [List.take_of_length_le (by rw [backL_len]; omega)] at hown2
      replace hown2 := Lib.hid hown2
      clear hyes hown hall
      go_wp2_with fail
      go_ret2
      exact ⟨_, rfl, by rw [hRv.out, backL_len]; exact own_le hown2.out (by omega), hB.out⟩
end Go.Proofs.YtbddlbhanpjdnaaDoor

namespace Go.Proofs.YtbddlbhanpjdnaaDoor
open Go.RowKit Go.Sort

theorem own_forms {w : World} {base : Nat} {T : TypeId} {size : Nat} {v : Value} {n : Nat} {xs : List Value} (h : w.ownsRow base T size v n xs) : (v = .slice none 0 0 ∧ n = 0) ∨ ∃ g cap, v = .slice (some ⟨g, 0, none⟩) n cap := by
  rcases h.2 with hc | ⟨g, cap, cur, hv, -⟩
  · exact .inl hc
  · exact .inr ⟨g, cap, hv⟩

theorem grown_refl (w : World) (row : Option Nat) : w.grownBy w row := ⟨rfl, rfl, rfl, Nat.le_refl _, fun _ _ _ => rfl⟩
theorem grown_trans {a b c : World} {row : Option Nat} (h : a.grownBy b row) (k : b.grownBy c row) : a.grownBy c row :=
  ⟨k.os.trans h.os, k.tape.trans h.tape, k.output.trans h.output, Nat.le_trans h.size k.size, fun j hj hr => (k.block j (Nat.lt_of_lt_of_le hj h.size) hr).trans (h.block j hj hr)⟩
theorem grown_below {a b : World} {row : Option Nat} (h : Below a.heap.size a b) : a.grownBy b row := ⟨h.os, h.tape, h.output, h.size, fun j hj _ => h.block j hj⟩

end Go.Proofs.YtbddlbhanpjdnaaDoor
