/- Preimages: the plain lists; the document's answer: Round, Turn, Turns. · Preimages: angle.Back, filigreeref21.Back. · Preimages: angle.Back. · filigreelaw21.same: two lists that tell the same. -/
import Derived.Test.YtciafmnideihjaaRefD
import Derived.Deep.CutBlock
import Derived.Test.YtciafmnideihjaaAngN
namespace Go.Proofs.Ytciafmnideihjaa
open Go.RowKit

/-- The k-th preimage of x over y, in lowest terms. -/
def bkN (x y d k : Nat) : Nat × Nat := ((x + k * y) / Nat.gcd (x + k * y) (y * d), y * d / Nat.gcd (x + k * y) (y * d))
def backL (x y d : Nat) : List (Nat × Nat) := (List.range d).map (bkN x y d)
theorem backL_len (x y d : Nat) : (backL x y d).length = d := by simp [backL]
theorem backL_get {x y d k : Nat} (h : k < d) : (backL x y d)[k]? = some (bkN x y d k) := by simp [backL, h]
def backOk (x y d : Nat) : Bool := (backL x y d).all fun p => decide (p.2 ≤ 2147483647)

/-- Parts as ratios' cells, as angles' cells. -/
def ratC (L : List (Nat × Nat)) : List Value := L.flatMap fun x => [.bool false, .string (natS x.1), .string (natS x.2)]
def angC (L : List (Nat × Nat)) : List Value := L.flatMap fun x => [.int .u64 (x.1 : Int), .int .u64 (x.2 : Int)]
theorem ratC_snoc (L : List (Nat × Nat)) (p : Nat × Nat) : ratC (L ++ [p]) = ratC L ++ [.bool false, .string (natS p.1), .string (natS p.2)] := by simp [ratC]
theorem angC_snoc (L : List (Nat × Nat)) (p : Nat × Nat) : angC (L ++ [p]) = angC L ++ [.int .u64 (p.1 : Int), .int .u64 (p.2 : Int)] := by simp [angC]
theorem ratC_len (L : List (Nat × Nat)) : (ratC L).length = L.length * 3 := by
  induction L with
  | nil => rfl
  | cons x L ih =>
    have : ratC (x :: L) = [.bool false, .string (natS x.1), .string (natS x.2)] ++ ratC L := by simp [ratC]
    rw [this, List.length_append, ih]
    simp
    omega
theorem angC_len (L : List (Nat × Nat)) : (angC L).length = L.length * 2 := by
  induction L with
  | nil => rfl
  | cons x L ih =>
    have : angC (x :: L) = [.int .u64 (x.1 : Int), .int .u64 (x.2 : Int)] ++ angC L := by simp [angC]
    rw [this, List.length_append, ih]
    simp
    omega
theorem ratC_get : ∀ (L : List (Nat × Nat)) (j : Nat) (p : Nat × Nat), L[j]? = some p → (ratC L)[j * 3]? = some (.bool false) ∧ (ratC L)[j * 3 + 1]? = some (.string (natS p.1)) ∧ (ratC L)[j * 3 + 2]? = some (.string (natS p.2))
  | [], j, p, h => by simp at h
  | x :: L, 0, p, h => by
    simp at h; subst h
    have : ratC (x :: L) = [.bool false, .string (natS x.1), .string (natS x.2)] ++ ratC L := by simp [ratC]
    rw [this]
    simp
  | x :: L, j + 1, p, h => by
    have : ratC (x :: L) = [.bool false, .string (natS x.1), .string (natS x.2)] ++ ratC L := by simp [ratC]
    rw [this]
    have ih := ratC_get L j p (by simpa using h)
    rw [List.getElem?_append_right (by simp; omega), List.getElem?_append_right (by simp; omega), List.getElem?_append_right (by simp; omega)]
    simp only [List.length_cons, List.length_nil]
    rw [show (j + 1) * 3 - (0 + 1 + 1 + 1) = j * 3 by omega, show (j + 1) * 3 + 1 - (0 + 1 + 1 + 1) = j * 3 + 1 by omega, show (j + 1) * 3 + 2 - (0 + 1 + 1 + 1) = j * 3 + 2 by omega]
    exact ih
theorem angC_get : ∀ (L : List (Nat × Nat)) (j : Nat) (p : Nat × Nat), L[j]? = some p → (angC L)[j * 2]? = some (.int .u64 (p.1 : Int)) ∧ (angC L)[j * 2 + 1]? = some (.int .u64 (p.2 : Int))
  | [], j, p, h => by simp at h
  | x :: L, 0, p, h => by
    simp at h; subst h
    have : angC (x :: L) = [.int .u64 (x.1 : Int), .int .u64 (x.2 : Int)] ++ angC L := by simp [angC]
    rw [this]
    simp
  | x :: L, j + 1, p, h => by
    have : angC (x :: L) = [.int .u64 (x.1 : Int), .int .u64 (x.2 : Int)] ++ angC L := by simp [angC]
    rw [this]
    have ih := angC_get L j p (by simpa using h)
    rw [List.getElem?_append_right (by simp; omega), List.getElem?_append_right (by simp; omega)]
    simp only [List.length_cons, List.length_nil]
    rw [show (j + 1) * 2 - (0 + 1 + 1) = j * 2 by omega, show (j + 1) * 2 + 1 - (0 + 1 + 1) = j * 2 + 1 by omega]
    exact ih

theorem own_below {w w' : World} {base : Nat} {T : TypeId} {size : Nat} {v : Value} {n : Nat} {xs : List Value} (h : w.ownsRow base T size v n xs) (hb : Below w.heap.size w w') : w'.ownsRow base T size v n xs := by
  obtain ⟨hl, hc⟩ := h
  refine ⟨hl, ?_⟩
  rcases hc with hc | ⟨g, cap, cur, hv, hbase, hg, rest⟩
  · exact .inl hc
  · have hlt : g < w.heap.size := by
      rcases Nat.lt_or_ge g w.heap.size with h | h
      · exact h
      · rw [Array.getElem?_eq_none h] at hg; cases hg
    exact .inr ⟨g, cap, cur, hv, hbase, (hb.block g hlt).trans hg, rest⟩

/-- The outcome: a row of the call's own, and an error's number. -/
def RetRow (T : TypeId) (size : Nat) (c : Int) (n : Nat) (xs : List Value) (w : World) (e : Ending) (w' : World) : Prop :=
  ∃ v, e = .returned (.tuple #[v, .int .i64 c]) ∧ w'.ownsRow w.heap.size T size v n xs ∧ Below w.heap.size w w'

/-- filigreeref21.Round -/
theorem rround_any (d : Int) (w : World) : Calls Try.prog 19 #[.int .i64 d] w fun e w' => e = .returned (.bool (roundB d)) ∧ w = w' := by
  by_cases h : 2 ≤ d
  · by_cases h2 : d ≤ 64
    · have HB : Hid (roundB d = true) := Lib.hid (roundB_iff.2 ⟨h, h2⟩)
      go_enter Try.func19, Try.ntmps19
      go_wp2
      go_ret
      exact ⟨by rw [HB.out]; rfl, rfl⟩
    · have HB : Hid (roundB d = false) := Lib.hid (by simp [roundB]; omega)
      have h2' : decide (d ≤ 64) = false := by simp; omega
      go_enter Try.func19, Try.ntmps19
      go_wp2
      go_ret
      exact ⟨by rw [HB.out]; rfl, rfl⟩
  · have HB : Hid (roundB d = false) := Lib.hid (by simp [roundB]; omega)
    have h' : decide (2 ≤ d) = false := by simp; omega
    go_enter Try.func19, Try.ntmps19
    go_wp2
    go_ret
    exact ⟨by rw [HB.out]; rfl, rfl⟩

set_option maxRecDepth 100000 in
set_option maxHeartbeats 1000000 in
/-- filigreeref21.Turn -/
theorem rturn_any (x y d X N D : Nat) (w : World) (k : x ≤ 2147483647) (l0 : 0 < y) (l : y ≤ 2147483647) (hd : d ≤ 64) (hX : Hid (X = x * d % y)) (hN : Hid (N = X / Nat.gcd X y)) (hD : Hid (D = y / Nat.gcd X y)) :
    Calls Try.prog 28 #[.agg #[.int .u64 (x : Int), .int .u64 (y : Int)], .int .i64 (d : Int)] w (RetPart N D w) := by
  obtain ⟨S, hS⟩ : ∃ S, S = x * d := ⟨_, rfl⟩
  have hSs : S ≤ 2147483647 * 64 := by rw [hS]; exact Nat.mul_le_mul k hd
  have hSi : (x : Int) * (d : Int) = (S : Int) := by rw [hS]; push_cast; rfl
  have hX2 : Hid (X = S % y) := Lib.hid (by rw [hX.out, hS])
  have b1 : Hid (S < 18446744073709551616) := Lib.hid (by omega)
  have b2 : Hid (y < 18446744073709551616) := Lib.hid (by omega)
  have b0 : Hid (0 < y) := Lib.hid l0
  have wd : IntKind.u64.wrap (d : Int) = (d : Int) := by rw [IntKind.wrap_u64]; omega
  have ws : IntKind.u64.wrap (S : Int) = (S : Int) := by rw [IntKind.wrap_u64]; omega
  have hK2 := Blk.new (w.alloc (.cells #[.int .u64 (x : Int), .int .u64 (y : Int)] 34)) 34 #[.int .u64 0, .int .u64 0]
  have hBW : Below w.heap.size w ((w.alloc (.cells #[.int .u64 (x : Int), .int .u64 (y : Int)] 34)).alloc (.cells #[.int .u64 0, .int .u64 0] 34)) := ((Below.refl _ w).alloc (Nat.le_refl _) _).alloc (by simp) _
  rw [show (w.alloc (.cells #[.int .u64 (x : Int), .int .u64 (y : Int)] 34)).heap.size = w.heap.size + 1 by simp] at hK2
  replace hK2 := Lib.hid hK2
  replace hBW := Lib.hid hBW
  clear hS
  go_enter Try.func28, Try.ntmps28
  go_wp2_with fail
  refine (low_any S y X N D _ b1.out b2.out b0.out hX2 hN hD).mono ?_
  rintro e w1 ⟨rfl, hb⟩
  have r2 := Blk.below hK2.out hb
  have hB1 := Lib.hid (hBW.out.trans (hb.mono (by simp; omega)))
  have k0 : w1.cell? ⟨w.heap.size + 1, 0, none⟩ = some (.int .u64 0) := r2.cell 0
  have k1 : w1.cell? ⟨w.heap.size + 1, 1, none⟩ = some (.int .u64 0) := r2.cell 1
  have f0 := r2.frozen 0
  have f1 := r2.frozen 1
  clear hb hK2 hBW r2
  go_wp2
  refine bodyPost_ret (v := .agg #[.int .u64 (N : Int), .int .u64 (D : Int)]) (by simp [results, Try.results28, go_sem, k0, k1]) rfl ⟨rfl, ?_⟩
  exact (hB1.out.setCell (p := ⟨w.heap.size + 1, 0, none⟩) (by simp) _).setCell (p := ⟨w.heap.size + 1, 1, none⟩) (by simp) _

set_option maxRecDepth 100000 in
set_option maxHeartbeats 1000000 in
/-- filigreeref21.Turns, n from 0 on. -/
theorem rturns_any (x y d n P X N D : Nat) (w : World) (k : x ≤ 2147483647) (l0 : 0 < y) (l : y ≤ 2147483647) (hd : d ≤ 64) (hn : n < 9223372036854775808) (hP : Hid (P = d ^ n % y)) (hX : Hid (X = x * P % y)) (hN : Hid (N = X / Nat.gcd X y)) (hD : Hid (D = y / Nat.gcd X y)) :
    Calls Try.prog 29 #[.agg #[.int .u64 (x : Int), .int .u64 (y : Int)], .int .i64 (d : Int), .int .i64 (n : Int)] w (RetPart N D w) := by
  obtain ⟨x0, hx0⟩ : ∃ x0, x0 = 1 % y := ⟨_, rfl⟩
  obtain ⟨y0, hy0⟩ : ∃ y0, y0 = d % y := ⟨_, rfl⟩
  have e1 : (1 : Int).tmod (y : Int) = (x0 : Int) := by rw [hx0]; exact tmod_nat 1 y
  have e1' : (1 : Int) % (y : Int) = (x0 : Int) := by rw [hx0]; rfl
  have e2 : (d : Int).tmod (y : Int) = (y0 : Int) := by rw [hy0]; exact tmod_nat d y
  have e2' : (d : Int) % (y : Int) = (y0 : Int) := by rw [hy0]; rfl
  have hxm : x0 < y := by rw [hx0]; exact Nat.mod_lt _ l0
  have hym : y0 < y := by rw [hy0]; exact Nat.mod_lt _ l0
  have w1 : IntKind.u64.wrap (x0 : Int) = (x0 : Int) := by rw [IntKind.wrap_u64]; omega
  have w2 : IntKind.u64.wrap (y0 : Int) = (y0 : Int) := by rw [IntKind.wrap_u64]; omega
  have wd : IntKind.u64.wrap (d : Int) = (d : Int) := by rw [IntKind.wrap_u64]; omega
  have hyz : ¬ (y : Int) = 0 := by omega
  have H0 : Hid (x0 * y0 ^ n % y = P) := Lib.hid (by rw [hP.out, hx0, hy0, Nat.mul_mod, Nat.mod_mod, ← Nat.pow_mod, ← Nat.mul_mod, Nat.one_mul])
  have hK1 := (Blk.new w 34 #[.int .u64 (x : Int), .int .u64 (y : Int)]).alloc (.cells #[.int .u64 0, .int .u64 0] 34)
  have hK2 := Blk.new (w.alloc (.cells #[.int .u64 (x : Int), .int .u64 (y : Int)] 34)) 34 #[.int .u64 0, .int .u64 0]
  have hBW : Below w.heap.size w ((w.alloc (.cells #[.int .u64 (x : Int), .int .u64 (y : Int)] 34)).alloc (.cells #[.int .u64 0, .int .u64 0] 34)) := ((Below.refl _ w).alloc (Nat.le_refl _) _).alloc (by simp) _
  rw [show (w.alloc (.cells #[.int .u64 (x : Int), .int .u64 (y : Int)] 34)).heap.size = w.heap.size + 1 by simp] at hK2
  obtain ⟨u, hu⟩ : ∃ u, u = ((w.alloc (.cells #[.int .u64 (x : Int), .int .u64 (y : Int)] 34)).alloc (.cells #[.int .u64 0, .int .u64 0] 34)) := ⟨_, rfl⟩
  rw [← hu] at hK1 hK2 hBW
  have c0 : u.cell? ⟨w.heap.size, 0, none⟩ = some (.int .u64 (x : Int)) := hK1.cell 0
  have c1 : u.cell? ⟨w.heap.size, 1, none⟩ = some (.int .u64 (y : Int)) := hK1.cell 1
  replace hu := Lib.hid hu
  replace hK2 := Lib.hid hK2
  replace hBW := Lib.hid hBW
  clear hx0 hy0 hK1
  go_enter Try.func29, Try.ntmps29
  go_upto_region 1 with fail
  rw [← hu.out]
  go_quiet (fail)
  go_wp2_with fail
  clear e1 e1' e2 e2' w1 w2 wd
  go_loopw [2, 7, 8] (fun k x y' wr => ∃ K X Y : Nat, k = .int .i64 (K : Int) ∧ x = .int .u64 (X : Int) ∧ y' = .int .u64 (Y : Int) ∧ K < 9223372036854775808 ∧ X < y ∧ Y < y ∧ X * Y ^ K % y = P ∧ Dr u wr) (fun k _ _ _ => (intOf k).toNat)
  case atStart => exact ⟨n, x0, y0, rfl, rfl, rfl, hn, hxm, hym, H0.out, ⟨_, rfl⟩⟩
  case round =>
    obtain ⟨K, X', Y, rfl, rfl, rfl, hK, hX', hY, hv, nn, rfl⟩ := hrel
    have HV := Lib.hid hv
    clear hv
    by_cases h0 : 0 < K
    · have hXY : X' * Y < 18446744073709551616 := Nat.lt_of_le_of_lt (Nat.mul_le_mul (show X' ≤ 4294967295 by omega) (show Y ≤ 4294967295 by omega)) (by omega)
      have hYY : Y * Y < 18446744073709551616 := Nat.lt_of_le_of_lt (Nat.mul_le_mul (show Y ≤ 4294967295 by omega) (show Y ≤ 4294967295 by omega)) (by omega)
      obtain ⟨Q, hQ⟩ : ∃ Q, Q = X' * Y := ⟨_, rfl⟩
      have hQi : (X' : Int) * (Y : Int) = (Q : Int) := by rw [hQ]; push_cast; rfl
      obtain ⟨S, hS⟩ : ∃ S, S = Y * Y := ⟨_, rfl⟩
      have hSi : (Y : Int) * (Y : Int) = (S : Int) := by rw [hS]; push_cast; rfl
      obtain ⟨q, hq⟩ : ∃ q, q = Q % y := ⟨_, rfl⟩
      have hqi : (Q : Int).tmod (y : Int) = (q : Int) := by rw [hq]; exact tmod_nat Q y
      have hqi' : (Q : Int) % (y : Int) = (q : Int) := by rw [hq]; rfl
      obtain ⟨s, hs⟩ : ∃ s, s = S % y := ⟨_, rfl⟩
      have hsi : (S : Int).tmod (y : Int) = (s : Int) := by rw [hs]; exact tmod_nat S y
      have hsi' : (S : Int) % (y : Int) = (s : Int) := by rw [hs]; rfl
      have hqm : q < y := by rw [hq]; exact Nat.mod_lt _ l0
      have hsm : s < y := by rw [hs]; exact Nat.mod_lt _ l0
      obtain ⟨k2, hk2⟩ : ∃ k2, k2 = K / 2 := ⟨_, rfl⟩
      have hk2i : (K : Int) / 2 = (k2 : Int) := by omega
      rw [← hQ] at hXY
      rw [← hS] at hYY
      have hKp : (0 : Int) < (K : Int) := by omega
      rcases Nat.mod_two_eq_zero_or_one K with hpar | hpar
      · have hpi : (K : Int) % 2 = 0 := by omega
        have HN : Hid (X' * s ^ k2 % y = P) := Lib.hid (by
          rw [← HV.out, hs, hS, ← pow_step_even, show 2 * k2 = K by omega])
        clear hQ hS hq hs hk2 hpar
        go_wp2
        go_roundw
        case rel => exact ⟨k2, X', s, by first | rfl | rw [hk2i], rfl, rfl, by omega, hX', hsm, HN.out, ⟨_, rfl⟩⟩
        case measure => simp [intOf]; omega
      · have hpi : (K : Int) % 2 = 1 := by omega
        have HN : Hid (q * s ^ k2 % y = P) := Lib.hid (by
          rw [← HV.out, hs, hS, hq, hQ, ← pow_step_odd, show 2 * k2 + 1 = K by omega])
        clear hQ hS hq hs hk2 hpar
        go_wp2
        go_roundw
        case rel => exact ⟨k2, q, s, by first | rfl | rw [hk2i], rfl, rfl, by omega, hqm, hsm, HN.out, ⟨_, rfl⟩⟩
        case measure => simp [intOf]; omega
    · obtain rfl : K = 0 := by omega
      have hXP : X' = P := by
        have := HV.out
        rw [Nat.pow_zero, Nat.mul_one, Nat.mod_eq_of_lt hX'] at this
        exact this
      subst hXP
      obtain ⟨S, hS⟩ : ∃ S, S = x * X' := ⟨_, rfl⟩
      have hSs : S ≤ 2147483647 * 2147483647 := by rw [hS]; exact Nat.mul_le_mul k (by omega)
      have hSi : (x : Int) * (X' : Int) = (S : Int) := by rw [hS]; push_cast; rfl
      have hX2 : Hid (X = S % y) := Lib.hid (by rw [hX.out, hS])
      have b1 : Hid (S < 18446744073709551616) := Lib.hid (by omega)
      have b2 : Hid (y < 18446744073709551616) := Lib.hid (by omega)
      have b0 : Hid (0 < y) := Lib.hid l0
      clear hS HV
      go_wp2_with fail
      refine (low_any S y X N D _ b1.out b2.out b0.out hX2 hN hD).mono ?_
      rintro e w1 ⟨rfl, hb⟩
      have r2 := Blk.below (Blk.drewN hK2.out _) hb
      have hB1 := Lib.hid ((below_drewN hBW.out _).trans (hb.mono (below_drewN hBW.out _).size))
      have k0 : w1.cell? ⟨w.heap.size + 1, 0, none⟩ = some (.int .u64 0) := r2.cell 0
      have k1 : w1.cell? ⟨w.heap.size + 1, 1, none⟩ = some (.int .u64 0) := r2.cell 1
      have f0 := r2.frozen 0
      have f1 := r2.frozen 1
      clear hb r2
      go_wp2
      refine bodyPost_ret (v := .agg #[.int .u64 (N : Int), .int .u64 (D : Int)]) (by simp [results, Try.results29, go_sem, k0, k1]) rfl ⟨rfl, ?_⟩
      exact (hB1.out.setCell (p := ⟨w.heap.size + 1, 0, none⟩) (by simp) _).setCell (p := ⟨w.heap.size + 1, 1, none⟩) (by simp) _
end Go.Proofs.Ytciafmnideihjaa

namespace Go.Proofs.Ytciafmnideihjaa
open Go.RowKit

theorem own_le {w : World} {base base' : Nat} {T : TypeId} {size : Nat} {v : Value} {n : Nat} {xs : List Value} (h : w.ownsRow base T size v n xs) (hb : base' ≤ base) : w.ownsRow base' T size v n xs := by
  obtain ⟨hl, hc⟩ := h
  refine ⟨hl, ?_⟩
  rcases hc with hc | ⟨g, cap, cur, hv, hbase, rest⟩
  · exact .inl hc
  · exact .inr ⟨g, cap, cur, hv, Nat.le_trans hb hbase, rest⟩

theorem info_ratio : (Try.prog.info? 24).map (fun i => (i.zero, i.size, i.bytes)) = some (some (.agg #[.bool false, .string ⟨#[]⟩, .string ⟨#[]⟩]), 3, 40) := by kernel_rfl
theorem info_angle : (Try.prog.info? 34).map (fun i => (i.zero, i.size, i.bytes)) = some (some (.agg #[.int .u64 0, .int .u64 0]), 2, 16) := by kernel_rfl

/-- The error's number and the list of the preimages. -/
def backE (x y d : Nat) : Int := if backOk x y d then 0 else 210
def backR (x y d : Nat) : List (Nat × Nat) := if backOk x y d then backL x y d else []

theorem backOk_no {x y d k : Nat} (h : k < d) (hd : ¬ (bkN x y d k).2 ≤ 2147483647) : backOk x y d = false := by
  unfold backOk
  rw [List.all_eq_false]
  exact ⟨_, List.mem_of_getElem? (backL_get h), by simpa using hd⟩
theorem backOk_yes {x y d : Nat} (h : ∀ k, k < d → (bkN x y d k).2 ≤ 2147483647) : backOk x y d = true := by
  unfold backOk
  rw [List.all_eq_true]
  intro p hp
  obtain ⟨k, hk, rfl⟩ := List.mem_map.1 hp
  simpa using h k (List.mem_range.1 hk)
theorem backL_take {x y d k : Nat} (h : k < d) : (backL x y d).take (k + 1) = (backL x y d).take k ++ [bkN x y d k] := by
  have hlt : k < (backL x y d).length := by rw [backL_len]; exact h
  have e : (backL x y d)[k] = bkN x y d k := by
    have := backL_get (x := x) (y := y) h
    rw [List.getElem?_eq_getElem hlt] at this
    exact Option.some.inj this
  rw [List.take_succ_eq_append_getElem hlt, e]

set_option maxRecDepth 100000 in
set_option maxHeartbeats 2000000 in
/-- filigreeref21.Back -/
theorem rback_any (x y d : Nat) (w : World) (k1 : x < y) (l : y ≤ 2147483647) (hd : d ≤ 64) :
    Calls Try.prog 30 #[.agg #[.int .u64 (x : Int), .int .u64 (y : Int)], .int .i64 (d : Int)] w (RetRow 34 2 (backE x y d) (backR x y d).length (angC (backR x y d)) w) := by
  obtain ⟨i0, hi, hz0, hz1, hz2⟩ := info_parts info_angle
  obtain ⟨E, hE⟩ : ∃ E, E = backE x y d := ⟨_, rfl⟩
  obtain ⟨R, hR⟩ : ∃ R, R = backR x y d := ⟨_, rfl⟩
  rw [← hE, ← hR]
  replace hE := Lib.hid hE
  replace hR := Lib.hid hR
  have kp := Blk.new w 34 #[.int .u64 (x : Int), .int .u64 (y : Int)]
  have hBW : Below w.heap.size w (w.alloc (.cells #[.int .u64 (x : Int), .int .u64 (y : Int)] 34)) := (Below.refl _ w).alloc (Nat.le_refl _) _
  obtain ⟨u, hu⟩ : ∃ u, u = w.alloc (.cells #[.int .u64 (x : Int), .int .u64 (y : Int)] 34) := ⟨_, rfl⟩
  rw [← hu] at kp hBW
  replace hu := Lib.hid hu
  go_enter Try.func30, Try.ntmps30
  go_wp2_with fail
  rw [← hu.out]
  go_loopw [6, 7] (fun v kk wr => ∃ k : Nat, kk = .int .i64 (k : Int) ∧ k ≤ d ∧ (∀ j, j < k → (bkN x y d j).2 ≤ 2147483647) ∧ wr.ownsRow (w.heap.size + 1) 34 2 v k (angC ((backL x y d).take k)) ∧ Blk wr w.heap.size 34 #[.int .u64 (x : Int), .int .u64 (y : Int)] ∧ Below w.heap.size w wr) (fun _ kk _ => d - (intOf kk).toNat)
  case atStart => exact ⟨0, rfl, Nat.zero_le _, fun j hj => absurd hj (by omega), World.ownsRow_nil _ _ _ _, kp, hBW⟩
  case round =>
    obtain ⟨k, rfl, hk, hall, hown, hp, hB⟩ := hrel
    replace hall := Lib.hid hall
    replace hown := Lib.hid hown
    replace hB := Lib.hid hB
    by_cases h0 : k < d
    · have h0I : (k : Int) < (d : Int) := by omega
      have c0 : wr.cell? ⟨w.heap.size, 0, none⟩ = some (.int .u64 (x : Int)) := hp.cell 0
      have c1 : wr.cell? ⟨w.heap.size, 1, none⟩ = some (.int .u64 (y : Int)) := hp.cell 1
      replace hp := Lib.hid hp
      obtain ⟨P, hP⟩ : ∃ P, P = k * y := ⟨_, rfl⟩
      have hPs : P ≤ 64 * 2147483647 := by rw [hP]; exact Nat.mul_le_mul (by omega) l
      have hPi : (k : Int) * (y : Int) = (P : Int) := by rw [hP]; push_cast; rfl
      obtain ⟨S, hS⟩ : ∃ S, S = x + P := ⟨_, rfl⟩
      have hSi : (x : Int) + (P : Int) = (S : Int) := by rw [hS]; push_cast; rfl
      obtain ⟨Y, hY⟩ : ∃ Y, Y = y * d := ⟨_, rfl⟩
      have hYs : Y ≤ 2147483647 * 64 := by rw [hY]; exact Nat.mul_le_mul l hd
      have hYi : (d : Int) * (y : Int) = (Y : Int) := by rw [hY, Nat.mul_comm]; push_cast; rfl
      have hY0 : 0 < Y := by rw [hY]; exact Nat.mul_pos (by omega) (by omega)
      have hSY : S < Y := by
        have h1 : (k + 1) * y ≤ d * y := Nat.mul_le_mul_right y h0
        rw [Nat.add_mul, Nat.one_mul, ← hP, Nat.mul_comm d, ← hY] at h1
        omega
      obtain ⟨N, hN⟩ : ∃ N, N = S / Nat.gcd S Y := ⟨_, rfl⟩
      obtain ⟨D, hD⟩ : ∃ D, D = Y / Nat.gcd S Y := ⟨_, rfl⟩
      have hbk : bkN x y d k = (N, D) := by rw [hN, hD, hS, hY, hP]; rfl
      have hS2 : Hid (S = S % Y) := Lib.hid (Nat.mod_eq_of_lt hSY).symm
      have b1 : Hid (S < 18446744073709551616) := Lib.hid (by omega)
      have b2 : Hid (Y < 18446744073709551616) := Lib.hid (by omega)
      have hDs : D ≤ Y := by rw [hD]; exact Nat.div_le_self _ _
      have wk : IntKind.u64.wrap (k : Int) = (k : Int) := by rw [IntKind.wrap_u64]; omega
      have wd : IntKind.u64.wrap (d : Int) = (d : Int) := by rw [IntKind.wrap_u64]; omega
      have wP : IntKind.u64.wrap (P : Int) = (P : Int) := by rw [IntKind.wrap_u64]; omega
      have wS : IntKind.u64.wrap (S : Int) = (S : Int) := by rw [IntKind.wrap_u64]; omega
      have wY : IntKind.u64.wrap (Y : Int) = (Y : Int) := by rw [IntKind.wrap_u64]; omega
      replace hbk := Lib.hid hbk
      replace hN := Lib.hid hN
      replace hD := Lib.hid hD
      replace hY0 := Lib.hid hY0
      clear hP hS hY hSY
      obtain ⟨wo, rfl⟩ : ∃ wo : World, wo = wr := ⟨_, rfl⟩
      go_wp2_with fail
      refine (low_any S Y S N D _ b1.out b2.out hY0.out hS2 hN hD).mono ?_
      rintro e v1 ⟨rfl, hb⟩
      have hown1 := (own_below hown.out hb).alloc (.cells #[.int .u64 (N : Int), .int .u64 (D : Int)] 34)
      have hp1 := (Blk.below hp.out hb).alloc (.cells #[.int .u64 (N : Int), .int .u64 (D : Int)] 34)
      have hq := Blk.new v1 34 #[.int .u64 (N : Int), .int .u64 (D : Int)]
      have hB1 := hB.out.trans (hb.mono hB.out.size)
      replace hB1 := hB1.alloc hB1.size (.cells #[.int .u64 (N : Int), .int .u64 (D : Int)] 34)
      clear hb c0 c1 hp hB hown hPi hSi hYi wk wd wP wS wY
      go_upto_region 6 with fail
      generalize hv2 : v1.alloc (.cells #[.int .u64 (N : Int), .int .u64 (D : Int)] 34) = v2 at hown1 hp1 hq hB1 ⊢
      generalize hg : v1.heap.size = g at *
      have d0 : v2.cell? ⟨g, 0, none⟩ = some (.int .u64 (N : Int)) := hq.cell 0
      have d1 : v2.cell? ⟨g, 1, none⟩ = some (.int .u64 (D : Int)) := hq.cell 1
      clear hv2 hg hq
      replace hown1 := Lib.hid hown1
      replace hp1 := Lib.hid hp1
      replace hB1 := Lib.hid hB1
      by_cases hle : D ≤ 2147483647
      · have hI : ¬ (2147483647 : Int) < (D : Int) := by omega
        have hall2 : Hid (∀ j, j < k + 1 → (bkN x y d j).2 ≤ 2147483647) := Lib.hid (fun j hj => by
          by_cases hjk : j = k
          · subst hjk; rw [hbk.out]; exact hle
          · exact hall.out j (by omega))
        have htk : Hid (angC ((backL x y d).take (k + 1)) = angC ((backL x y d).take k) ++ [.int .u64 (N : Int), .int .u64 (D : Int)]) := Lib.hid (by
          rw [backL_take h0, angC_snoc, hbk.out])
        clear hle hDs hall
        go_wp2_with (at_builtin; refine wpList_append_own _ rfl _ _ 44 rfl (w.heap.size + 1) 34 i0 (.agg #[.int .u64 0, .int .u64 0]) 2 16 Try.underlying44 hi hz0 hz1 hz2 rfl (by decide) _ _ _ rfl (hown1.out.alloc _) ⟨v2.heap.size, 0, none⟩ 1 1 [.int .u64 (N : Int), .int .u64 (D : Int)] rfl rfl ?d1 ?d2 ?d3 ?d4 ?d5 ?_)
        case d2 => exact ⟨rfl, rfl⟩
        case d3 => unfold maxLen; omega
        case d4 => omega
        case d5 => have := hp1.out.lt; simp; omega
        intro v' w3 hown' hgrow _
        have hB3 : Below w.heap.size w w3 := (hB1.out.alloc hB1.out.size _).grown hgrow (by have := hB1.out.size; simp; omega) (fun k hk => Nat.le_trans (Nat.le_succ _) (hown1.out.lt k hk).1)
        have hp3 : Blk w3 w.heap.size 34 #[.int .u64 (x : Int), .int .u64 (y : Int)] := Blk.grown (hp1.out.alloc _) hgrow (fun e => by have := (hown1.out.lt _ e.symm).1; omega)
        rw [← htk.out] at hown'
        replace hown' := Lib.hid hown'
        replace hp3 := Lib.hid hp3
        replace hB3 := Lib.hid hB3
        clear hgrow hown1 hp1 hB1 d0 d1 htk
        go_wp2
        go_roundw
        case rel => exact ⟨k + 1, by go_num, by omega, hall2.out, hown'.out, hp3.out, hB3.out⟩
        case measure => simp [intOf]; omega
      · have hI : (2147483647 : Int) < (D : Int) := by omega
        have hno := backOk_no h0 (by rw [hbk.out]; exact hle)
        have hEv : E = 210 := by rw [hE.out]; unfold backE; rw [hno]; rfl
        have hRv : R = [] := by rw [hR.out]; unfold backR; rw [hno]; rfl
        subst hEv hRv
        clear hle hDs hno
        go_wp2_with fail
        go_ret2
        exact ⟨_, rfl, World.ownsRow_nil _ _ _ _, hB1.out⟩
    · obtain rfl : k = d := by omega
      have hyes := backOk_yes hall.out
      have hEv : E = 0 := by rw [hE.out]; unfold backE; rw [hyes]; rfl
      have hRv : Hid (R = backL x y k) := Lib.hid (by rw [hR.out]; unfold backR; rw [hyes]; rfl)
      subst hEv
      have hown2 := hown.out
      rw [List.take_of_length_le (by rw [backL_len]; omega)] at hown2
      replace hown2 := Lib.hid hown2
      clear hyes hown hall
      go_wp2_with fail
      go_ret2
      exact ⟨_, rfl, by rw [hRv.out, backL_len]; exact own_le hown2.out (Nat.le_succ _), hB.out⟩
end Go.Proofs.Ytciafmnideihjaa

namespace Go.Proofs.Ytciafmnideihjaa
open Go.RowKit

def abackE (neg : Bool) (num den : ByteArray) (d : Int) : Int := if okA neg num den then if roundB d then backE (be (sl num)) (be (sl den)) d.toNat else 2 else 210
def abackR (neg : Bool) (num den : ByteArray) (d : Int) : List (Nat × Nat) := if okA neg num den then if roundB d then backR (be (sl num)) (be (sl den)) d.toNat else [] else []

set_option maxRecDepth 100000 in
set_option maxHeartbeats 2000000 in
/-- angle.Back -/
theorem aback_any (neg : Bool) (num den : ByteArray) (d : Int) (w : World) (z1 : num.size ≤ 9223372036854775807) (z2 : den.size ≤ 9223372036854775807) :
    Calls Try.prog 26 #[.agg #[.bool neg, .string num, .string den], .int .i64 d] w (RetRow 24 3 (abackE neg num den d) (abackR neg num den d).length (ratC (abackR neg num den d)) w) := by
  obtain ⟨i0, hi, hz0, hz1, hz2⟩ := info_parts info_ratio
  obtain ⟨x, y, hs1, hq1⟩ := smallV_form neg num den
  obtain ⟨E, hE⟩ : ∃ E, E = abackE neg num den d := ⟨_, rfl⟩
  obtain ⟨R, hR⟩ : ∃ R, R = abackR neg num den d := ⟨_, rfl⟩
  rw [← hE, ← hR]
  have hBW : Below w.heap.size w (w.alloc (.cells #[.bool neg, .string num, .string den] 24)) := (Below.refl _ w).alloc (Nat.le_refl _) _
  have hz : (w.alloc (.cells #[.bool neg, .string num, .string den] 24)).heap.size = w.heap.size + 1 := by simp
  replace hE := Lib.hid hE
  replace hR := Lib.hid hR
  replace hBW := Lib.hid hBW
  replace hs1 := Lib.hid hs1
  replace hq1 := Lib.hid hq1
  replace hz := Lib.hid hz
  go_enter Try.func26, Try.ntmps26
  go_wp2_with fail
  refine (small_any neg num den _ z1 z2).mono ?_
  rintro e v1 ⟨rfl, hb⟩
  rw [hs1.out]
  have kp := Blk.new v1 91 #[.int .u64 (x : Int), .int .u64 (y : Int)]
  have hB1 := hBW.out.trans (hb.mono hBW.out.size)
  have hgs : w.heap.size ≤ v1.heap.size := hB1.size
  replace hB1 := hB1.alloc hB1.size (.cells #[.int .u64 (x : Int), .int .u64 (y : Int)] 91)
  clear hb hBW hz
  go_upto_region 2 with fail
  generalize hv1 : v1.alloc (.cells #[.int .u64 (x : Int), .int .u64 (y : Int)] 91) = u at kp hB1 ⊢
  generalize hgp : v1.heap.size = gp at *
  replace kp := Lib.hid kp
  replace hB1 := Lib.hid hB1
  clear hv1 hgp
  cases hok : okA neg num den
  · have hEv : E = 210 := by rw [hE.out]; simp [abackE, hok]
    have hRv : R = [] := by rw [hR.out]; simp [abackR, hok]
    subst hEv hRv
    clear hE hR hq1 hok
    go_wp2_with fail
    go_ret2
    exact ⟨_, rfl, World.ownsRow_nil _ _ _ _, hB1.out⟩
  cases hr : roundB d
  · have hEv : E = 2 := by rw [hE.out]; simp [abackE, hok, hr]
    have hRv : R = [] := by rw [hR.out]; simp [abackR, hok, hr]
    subst hEv hRv
    replace hr := Lib.hid hr
    clear hE hR hq1 hok
    go_wp2_with fail
    refine (aturns_any d _).mono ?_
    rintro e v2 ⟨rfl, rfl⟩
    rw [hr.out]
    go_wp2_with fail
    go_ret2
    exact ⟨_, rfl, World.ownsRow_nil _ _ _ _, hB1.out⟩
  obtain ⟨ex, ey, k1, l⟩ := hq1.out hok
  have hd := roundB_iff.1 hr
  obtain ⟨dn, rfl⟩ := Int.eq_ofNat_of_zero_le (show 0 ≤ d by omega)
  have hE2 : E = backE x y dn := by rw [hE.out, ex, ey]; simp [abackE, hok, hr]
  have hR2 : R = backR x y dn := by rw [hR.out, ex, ey]; simp [abackR, hok, hr]
  replace hE := Lib.hid hE2
  replace hR := Lib.hid hR2
  have hdI : (2 : Int) ≤ (dn : Int) := hd.1
  have hdI2 : (dn : Int) ≤ 64 := hd.2
  have wd : IntKind.u64.wrap (dn : Int) = (dn : Int) := by rw [IntKind.wrap_u64]; omega
  replace hr := Lib.hid hr
  clear hE2 hR2 hok ex ey hd hq1 hs1
  go_wp2_with fail
  refine (aturns_any (dn : Int) _).mono ?_
  rintro e v2 ⟨rfl, rfl⟩
  rw [hr.out]
  go_wp2_with fail
  go_loopw [8, 24] (fun v kk wr => ∃ k : Nat, kk = .int .u64 (k : Int) ∧ k ≤ dn ∧ (∀ j, j < k → (bkN x y dn j).2 ≤ 2147483647) ∧ wr.ownsRow (gp + 1) 24 3 v k (ratC ((backL x y dn).take k)) ∧ Blk wr gp 91 #[.int .u64 (x : Int), .int .u64 (y : Int)] ∧ Below w.heap.size w wr) (fun _ kk _ => dn - (intOf kk).toNat)
  case atStart => exact ⟨0, rfl, Nat.zero_le _, fun j hj => absurd hj (by omega), World.ownsRow_nil _ _ _ _, kp.out, hB1.out⟩
  case round =>
    obtain ⟨k, rfl, hk, hall, hown, hp, hB⟩ := hrel
    replace hall := Lib.hid hall
    replace hown := Lib.hid hown
    replace hB := Lib.hid hB
    by_cases h0 : k < dn
    · have h0I : (k : Int) < (dn : Int) := by omega
      have c0 : wr.cell? ⟨gp, 0, none⟩ = some (.int .u64 (x : Int)) := hp.cell 0
      have c1 : wr.cell? ⟨gp, 1, none⟩ = some (.int .u64 (y : Int)) := hp.cell 1
      replace hp := Lib.hid hp
      obtain ⟨P, hP⟩ : ∃ P, P = k * y := ⟨_, rfl⟩
      have hPs : P ≤ 64 * 2147483647 := by rw [hP]; exact Nat.mul_le_mul (by omega) l
      have hPi : (k : Int) * (y : Int) = (P : Int) := by rw [hP]; push_cast; rfl
      obtain ⟨S, hS⟩ : ∃ S, S = x + P := ⟨_, rfl⟩
      have hSi : (x : Int) + (P : Int) = (S : Int) := by rw [hS]; push_cast; rfl
      obtain ⟨Y, hY⟩ : ∃ Y, Y = y * dn := ⟨_, rfl⟩
      have hYs : Y ≤ 2147483647 * 64 := by rw [hY]; exact Nat.mul_le_mul l (show dn ≤ 64 by omega)
      have hYi : (y : Int) * (dn : Int) = (Y : Int) := by rw [hY]; push_cast; rfl
      have hY0 : 0 < Y := by rw [hY]; exact Nat.mul_pos (by omega) (by omega)
      have hSY : S < Y := by
        have h1 : (k + 1) * y ≤ dn * y := Nat.mul_le_mul_right y h0
        rw [Nat.add_mul, Nat.one_mul, ← hP, Nat.mul_comm dn, ← hY] at h1
        omega
      obtain ⟨N, hN⟩ : ∃ N, N = S / Nat.gcd S Y := ⟨_, rfl⟩
      obtain ⟨D, hD⟩ : ∃ D, D = Y / Nat.gcd S Y := ⟨_, rfl⟩
      have hbk : bkN x y dn k = (N, D) := by rw [hN, hD, hS, hY, hP]; rfl
      have b1 : Hid (S < 18446744073709551616) := Lib.hid (by omega)
      have b2 : Hid (Y < 18446744073709551616) := Lib.hid (by omega)
      have hDs : D ≤ Y := by rw [hD]; exact Nat.div_le_self _ _
      have hNs : N ≤ S := by rw [hN]; exact Nat.div_le_self _ _
      have b3 : Hid (N < 18446744073709551616) := Lib.hid (by omega)
      have b4 : Hid (D < 18446744073709551616) := Lib.hid (by omega)
      have wP : IntKind.u64.wrap (P : Int) = (P : Int) := by rw [IntKind.wrap_u64]; omega
      have wS : IntKind.u64.wrap (S : Int) = (S : Int) := by rw [IntKind.wrap_u64]; omega
      have wY : IntKind.u64.wrap (Y : Int) = (Y : Int) := by rw [IntKind.wrap_u64]; omega
      replace hbk := Lib.hid hbk
      replace hN := Lib.hid hN
      replace hD := Lib.hid hD
      replace hY0 := Lib.hid hY0
      clear hP hS hY hSY
      obtain ⟨wo, rfl⟩ : ∃ wo : World, wo = wr := ⟨_, rfl⟩
      go_wp2_with fail
      refine (lowest_any S Y N D _ b1.out b2.out hY0.out hN hD).mono ?_
      rintro e v1 ⟨rfl, hb⟩
      replace hown := Lib.hid (own_below hown.out hb)
      replace hp := Lib.hid (Blk.below hp.out hb)
      replace hB := Lib.hid (hB.out.trans (hb.mono hB.out.size))
      clear hb c0 c1 hPi hSi hYi wP wS wY
      obtain ⟨t1, t2, tc, ht⟩ := toldV_form N D
      have ht2 : tc = (if D ≤ 2147483647 then 0 else 210) ∧ (D ≤ 2147483647 → t1 = natS N ∧ t2 = natS D) := by
        unfold toldV at ht
        split at ht
        · rename_i h
          simp only [ratV, Value.tuple.injEq, Array.mk.injEq, List.cons.injEq, Value.agg.injEq, Value.string.injEq, Value.int.injEq, true_and, and_true] at ht
          obtain ⟨⟨h1, h2⟩, h3⟩ := ht
          rw [if_pos h]
          exact ⟨h3.symm, fun _ => ⟨h1.symm, h2.symm⟩⟩
        · rename_i h
          simp only [rat0, Value.tuple.injEq, Array.mk.injEq, List.cons.injEq, Value.agg.injEq, Value.string.injEq, Value.int.injEq, true_and, and_true] at ht
          rw [if_neg h]
          exact ⟨ht.2.symm, fun h' => absurd h' h⟩
      replace ht := Lib.hid ht
      replace ht2 := Lib.hid ht2
      go_wp2_with fail
      refine (told_any N D _ b3.out b4.out).mono ?_
      rintro e v1 ⟨rfl, hb⟩
      rw [ht.out]
      have hown1 := (own_below hown.out hb).alloc (.cells #[.bool false, .string t1, .string t2] 24)
      have hp1 := (Blk.below hp.out hb).alloc (.cells #[.bool false, .string t1, .string t2] 24)
      have hq := Blk.new v1 24 #[.bool false, .string t1, .string t2]
      replace hB1 := hB.out.trans (hb.mono hB.out.size)
      replace hB1 := hB1.alloc hB1.size (.cells #[.bool false, .string t1, .string t2] 24)
      clear hb hp hB hown
      go_upto_region 11 with fail
      generalize hv2 : v1.alloc (.cells #[.bool false, .string t1, .string t2] 24) = v2 at hown1 hp1 hq hB1 ⊢
      generalize hg : v1.heap.size = g at *
      have d0 : v2.cell? ⟨g, 0, none⟩ = some (.bool false) := hq.cell 0
      have d1 : v2.cell? ⟨g, 1, none⟩ = some (.string t1) := hq.cell 1
      have d2 : v2.cell? ⟨g, 2, none⟩ = some (.string t2) := hq.cell 2
      clear hv2 hg hq
      replace hown1 := Lib.hid hown1
      replace hp1 := Lib.hid hp1
      replace hB1 := Lib.hid hB1
      by_cases hle : D ≤ 2147483647
      · have hct := ht2.out.1
        rw [if_pos hle] at hct
        subst hct
        obtain ⟨et1, et2⟩ := ht2.out.2 hle
        subst et1 et2
        have hall2 : Hid (∀ j, j < k + 1 → (bkN x y dn j).2 ≤ 2147483647) := Lib.hid (fun j hj => by
          by_cases hjk : j = k
          · subst hjk; rw [hbk.out]; exact hle
          · exact hall.out j (by omega))
        have htk : Hid (ratC ((backL x y dn).take (k + 1)) = ratC ((backL x y dn).take k) ++ [.bool false, .string (natS N), .string (natS D)]) := Lib.hid (by
          rw [backL_take h0, ratC_snoc, hbk.out])
        clear hle hDs hall ht ht2
        go_wp2_with (at_builtin; refine wpList_append_own _ rfl _ _ 50 rfl (gp + 1) 24 i0 (.agg #[.bool false, .string ⟨#[]⟩, .string ⟨#[]⟩]) 3 40 Try.underlying50 hi hz0 hz1 hz2 rfl (by decide) _ _ _ rfl (hown1.out.alloc _) ⟨v2.heap.size, 0, none⟩ 1 1 [.bool false, .string (natS N), .string (natS D)] rfl rfl ?d1 ?d2 ?d3 ?d4 ?d5 ?_)
        case d1 =>
          intro j u hj
          match j, hj with
          | 0, hj => simp at hj; subst hj; simp [Addr.add]
          | 1, hj => simp at hj; subst hj; simp [Addr.add]
          | 2, hj => simp at hj; subst hj; simp [Addr.add]
        case d2 => intro u hu; simp at hu; rcases hu with rfl | rfl | rfl <;> rfl
        case d3 => unfold maxLen; omega
        case d4 => omega
        case d5 => have := hp1.out.lt; simp; omega
        intro v' w3 hown' hgrow _
        have hB3 : Below w.heap.size w w3 := (hB1.out.alloc hB1.out.size _).grown hgrow (by have := hB1.out.size; simp; omega) (fun k hk => by have := (hown1.out.lt k hk).1; omega)
        have hp3 : Blk w3 gp 91 #[.int .u64 (x : Int), .int .u64 (y : Int)] := Blk.grown (hp1.out.alloc _) hgrow (fun e => by have := (hown1.out.lt _ e.symm).1; omega)
        rw [← htk.out] at hown'
        replace hown' := Lib.hid hown'
        replace hp3 := Lib.hid hp3
        replace hB3 := Lib.hid hB3
        clear hgrow hown1 hp1 hB1 d0 d1 d2 htk
        go_wp2
        go_roundw
        case rel => exact ⟨k + 1, by go_num, by omega, hall2.out, hown'.out, hp3.out, hB3.out⟩
        case measure => simp [intOf]; omega
      · have hct := ht2.out.1
        rw [if_neg hle] at hct
        subst hct
        have hno := backOk_no h0 (by rw [hbk.out]; exact hle)
        have hEv : E = 210 := by rw [hE.out]; unfold backE; rw [hno]; rfl
        have hRv : R = [] := by rw [hR.out]; unfold backR; rw [hno]; rfl
        subst hEv hRv
        clear hle hDs hno ht ht2
        go_wp2_with fail
        go_ret2
        exact ⟨_, rfl, World.ownsRow_nil _ _ _ _, hB1.out⟩
    · obtain rfl : k = dn := by omega
      have hyes := backOk_yes hall.out
      have hEv : E = 0 := by rw [hE.out]; unfold backE; rw [hyes]; rfl
      have hRv : Hid (R = backL x y k) := Lib.hid (by rw [hR.out]; unfold backR; rw [hyes]; rfl)
      subst hEv
      have hown2 := hown.out
      rw [List.take_of_length_le (by rw [backL_len]; omega)] at hown2
      replace hown2 := Lib.hid hown2
      clear hyes hown hall
      go_wp2_with fail
      go_ret2
      exact ⟨_, rfl, by rw [hRv.out, backL_len]; exact own_le hown2.out (by omega), hB.out⟩
end Go.Proofs.Ytciafmnideihjaa

namespace Go.Proofs.Ytciafmnideihjaa
open Go.RowKit Go.Sort

theorem own_forms {w : World} {base : Nat} {T : TypeId} {size : Nat} {v : Value} {n : Nat} {xs : List Value} (h : w.ownsRow base T size v n xs) : (v = .slice none 0 0 ∧ n = 0) ∨ ∃ g cap, v = .slice (some ⟨g, 0, none⟩) n cap := by
  rcases h.2 with hc | ⟨g, cap, cur, hv, -⟩
  · exact .inl hc
  · exact .inr ⟨g, cap, hv⟩

theorem grown_refl (w : World) (row : Option Nat) : w.grownBy w row := ⟨rfl, rfl, rfl, Nat.le_refl _, fun _ _ _ => rfl⟩
theorem grown_trans {a b c : World} {row : Option Nat} (h : a.grownBy b row) (k : b.grownBy c row) : a.grownBy c row :=
  ⟨k.os.trans h.os, k.tape.trans h.tape, k.output.trans h.output, Nat.le_trans h.size k.size, fun j hj hr => (k.block j (Nat.lt_of_lt_of_le hj h.size) hr).trans (h.block j hj hr)⟩
theorem grown_below {a b : World} {row : Option Nat} (h : Below a.heap.size a b) : a.grownBy b row := ⟨h.os, h.tape, h.output, h.size, fun j hj _ => h.block j hj⟩

set_option maxRecDepth 100000 in
set_option maxHeartbeats 2000000 in
/-- filigreelaw21.same, of lists that tell the same; the first is written over. -/
theorem same_any (L : List (Nat × Nat)) (hL : ∀ p, p ∈ L → p.1 < 18446744073709551616 ∧ p.2 < 18446744073709551616) (hn : L.length ≤ 1000) (v1 v2 : Value) (w : World) (B1 B2 : Nat)
    (h1 : w.ownsRow B1 24 3 v1 L.length (ratC L)) (h2 : w.ownsRow B2 34 2 v2 L.length (angC L)) (hne : ∀ g, v1.ownBlock = some g → v2.ownBlock ≠ some g) :
    Calls Try.prog 31 #[v1, v2] w fun e w' => e = .returned (.bool true) ∧ w.grownBy w' v1.ownBlock := by
  by_cases hL0 : L = []
  · subst hL0
    rcases own_forms h1 with ⟨rfl, -⟩ | ⟨g1, cap1, rfl⟩ <;> rcases own_forms h2 with ⟨rfl, -⟩ | ⟨g2, cap2, rfl⟩
    all_goals
      clear h1 h2 hL hne
      try simp only [List.length_nil]
      go_enter Try.func31, Try.ntmps31
      go_wp2
      go_loop [5] (fun i => i = .int .i64 0) (fun _ => 0)
      case atStart => rfl
      case round =>
        subst hrel
        go_wp2
        go_ret
        exact ⟨rfl, grown_refl _ _⟩
  have hlen : 0 < L.length := List.length_pos_iff.2 hL0
  rcases own_forms h1 with ⟨-, h0⟩ | ⟨g1, cap1, rfl⟩
  · omega
  rcases own_forms h2 with ⟨-, h0⟩ | ⟨g2, cap2, rfl⟩
  · omega
  have hg12 : g1 ≠ g2 := fun e => hne g1 rfl (by rw [e]; rfl)
  obtain ⟨n, hnn⟩ : ∃ n, n = L.length := ⟨_, rfl⟩
  rw [← hnn] at h1 h2 hn hlen ⊢
  replace hnn := Lib.hid hnn
  replace hL := Lib.hid hL
  replace h1 := Lib.hid h1
  replace h2 := Lib.hid h2
  clear hne hL0
  go_enter Try.func31, Try.ntmps31
  go_wp2
  go_loopw [5] (fun i wr => ∃ (k : Nat) (xs : List Value), i = .int .i64 (k : Int) ∧ k ≤ n ∧ wr.ownsRow B1 24 3 (.slice (some ⟨g1, 0, none⟩) n cap1) n xs ∧ (∀ j, k * 3 ≤ j → xs[j]? = (ratC L)[j]?) ∧ wr.ownsRow B2 34 2 (.slice (some ⟨g2, 0, none⟩) n cap2) n (angC L) ∧ w.grownBy wr (some g1)) (fun i _ => n - (intOf i).toNat)
  case atStart => exact ⟨0, _, rfl, Nat.zero_le _, h1.out, fun _ _ => rfl, h2.out, grown_refl _ _⟩
  case round =>
    obtain ⟨k, xs, rfl, hk, hl, hxs, hw, hG⟩ := hrel
    by_cases h0 : k < n
    · have h0I : (k : Int) < (n : Int) := by omega
      obtain ⟨p, hp⟩ : ∃ p, L[k]? = some p := ⟨_, List.getElem?_eq_getElem (by rw [← hnn.out]; exact h0)⟩
      obtain ⟨r0, r1, r2⟩ := ratC_get L k p hp
      obtain ⟨s0, s1⟩ := angC_get L k p hp
      obtain ⟨N, D⟩ := p
      obtain ⟨hNs, hDs⟩ := hL.out _ (List.mem_of_getElem? hp)
      have c0 : ∀ d os, (grow (redrawn wr d) os).cell? ⟨g1, k * 3, none⟩ = some (.bool false) := cell_regrown (by rw [hl.cellAt _ (by omega), hxs _ (by omega)]; exact r0)
      have c1 : ∀ d os, (grow (redrawn wr d) os).cell? ⟨g1, k * 3 + 1, none⟩ = some (.string (natS N)) := cell_regrown (by rw [hl.cellAt _ (by omega), hxs _ (by omega)]; exact r1)
      have c2 : ∀ d os, (grow (redrawn wr d) os).cell? ⟨g1, k * 3 + 2, none⟩ = some (.string (natS D)) := cell_regrown (by rw [hl.cellAt _ (by omega), hxs _ (by omega)]; exact r2)
      have d0 : ∀ d os, (grow (redrawn wr d) os).cell? ⟨g2, k * 2, none⟩ = some (.int .u64 (N : Int)) := cell_regrown (by rw [hw.cellAt _ (by omega)]; exact s0)
      have d1 : ∀ d os, (grow (redrawn wr d) os).cell? ⟨g2, k * 2 + 1, none⟩ = some (.int .u64 (D : Int)) := cell_regrown (by rw [hw.cellAt _ (by omega)]; exact s1)
      have cc : ∀ d os, Calls Try.prog 24 #[.agg #[.int .u64 (N : Int), .int .u64 (D : Int)]] (grow (redrawn wr d) os) fun e w'' => e = .returned (.agg #[.bool false, .string (natS N), .string (natS D)]) ∧ ∃ p : Regrown, w'' = grow (redrawn wr p.d) p.os :=
        fun d os => Calls.regrown_of (rratio_any N D _ hNs hDs)
      replace hl := Lib.hid hl
      replace hxs := Lib.hid hxs
      replace hw := Lib.hid hw
      replace hG := Lib.hid hG
      clear r0 r1 r2 s0 s1 hNs hDs hp
      go_wp2_with fail
      refine wp_region_quiet_below (by kernel_rfl) (by kernel_rfl) ?_
      iterate 8 (quiet_step (fail))
      quiet_step (exact cc _ _)
      quiet_step (fail)
      refine wpQuiet_nil ?_
      intro u4 hw'
      have hb : Below wr.heap.size wr u4 := by
        obtain ⟨p, rfl⟩ := hw'
        exact below_regrown wr p.d p.os
      have hl4 := own_below hl.out hb
      have hw4 := own_below hw.out hb
      have hG4 := grown_trans hG.out (grown_below hb)
      clear hw' cc c0 c1 c2 d0 d1 hb hl hw hG
      have f0 := hl4.frozenAt (k * 3)
      have f1 := hl4.frozenAt (k * 3 + 1)
      have f2 := hl4.frozenAt (k * 3 + 2)
      have hlx : xs.length = n * 3 := hl4.1
      have e0 : ∃ u, u4.cell? ⟨g1, k * 3, none⟩ = some u := by rw [hl4.cellAt _ (by omega)]; exact ⟨_, List.getElem?_eq_getElem (by omega)⟩
      have e1 : ∃ u, u4.cell? ⟨g1, k * 3 + 1, none⟩ = some u := by rw [hl4.cellAt _ (by omega)]; exact ⟨_, List.getElem?_eq_getElem (by omega)⟩
      have e2 : ∃ u, u4.cell? ⟨g1, k * 3 + 2, none⟩ = some u := by rw [hl4.cellAt _ (by omega)]; exact ⟨_, List.getElem?_eq_getElem (by omega)⟩
      obtain ⟨w0, e0⟩ := e0
      obtain ⟨w1, e1⟩ := e1
      obtain ⟨w2, e2⟩ := e2
      obtain ⟨l5, g5⟩ := hl4.stored (k * 3) (.bool true)
      obtain ⟨l6, g6⟩ := l5.stored (k * 3 + 1) (.string ⟨#[]⟩)
      obtain ⟨l7, g7⟩ := l6.stored (k * 3 + 2) (.string ⟨#[]⟩)
      have hG7 := grown_trans (grown_trans (grown_trans hG4 g5) g6) g7
      have hne : (Value.slice (some ⟨g2, 0, none⟩) n cap2).ownBlock ≠ some g1 := by
        intro e
        injection e with e
        exact hg12 e.symm
      have w7 := ((hw4.kept g5 (.inr hne)).kept g6 (.inr hne)).kept g7 (.inr hne)
      have hx7 : Hid (∀ j, (k + 1) * 3 ≤ j → (((xs.set (k * 3) (.bool true)).set (k * 3 + 1) (.string ⟨#[]⟩)).set (k * 3 + 2) (.string ⟨#[]⟩))[j]? = (ratC L)[j]?) := Lib.hid (fun j hj => by
        rw [List.getElem?_set_ne (by omega), List.getElem?_set_ne (by omega), List.getElem?_set_ne (by omega)]
        exact hxs.out j (by omega))
      replace l7 := Lib.hid l7
      replace hG7 := Lib.hid hG7
      replace w7 := Lib.hid w7
      clear l5 g5 l6 g6 g7 hl4 hw4 hG4 hne hlx hxs
      go_wp2_with fail
      go_roundw
      case rel => exact ⟨k + 1, _, by go_num, by omega, l7.out, hx7.out, w7.out, hG7.out⟩
      case measure => simp [intOf]; omega
    · obtain rfl : k = n := by omega
      replace hl := Lib.hid hl
      replace hxs := Lib.hid hxs
      replace hw := Lib.hid hw
      replace hG := Lib.hid hG
      go_wp2_with fail
      go_ret
      exact ⟨rfl, hG.out⟩
end Go.Proofs.Ytciafmnideihjaa
