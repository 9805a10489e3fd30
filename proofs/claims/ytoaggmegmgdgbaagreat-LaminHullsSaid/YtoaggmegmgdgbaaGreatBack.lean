/- Preimages: the plain lists; the document's answer: Round, Turn, Turns. · Preimages: angle.Back, filigreeref21.Back. · Preimages: angle.Back. · filigreelaw21.same: two lists that tell the same. -/
import Derived.Test.YtoaggmegmgdgbaaGreatRefA
import Derived.Deep.CutBlock
import Derived.Test.YtoaggmegmgdgbaaGreatAngN
namespace Go.Proofs.YtoaggmegmgdgbaaGreat
open Go.RowKit

/-- The k-th preimage of x over y, in lowest terms. -/
def bkN (x y d k : Nat) : Nat × Nat := ((x + k * y) / Nat.gcd (x + k * y) (y * d), y * d / Nat.gcd (x + k * y) (y * d))
def backL (x y d : Nat) : List (Nat × Nat) := (List.range d).map (bkN x y d)
theorem backL_len (x y d : Nat) : (backL x y d).length = d := by simp [backL]
theorem backL_get {x y d k : Nat} (h : k < d) : (backL x y d)[k]? = some (bkN x y d k) := by simp [backL, h]
def backOk (x y d : Nat) : Bool := (backL x y d).all fun p => decide (p.2 ≤ 2147483647)

/-- Parts as ratios' cells, as angles' cells. -/
def ratC (L : List (Nat × Nat)) : List Value := L.flatMap fun x => [.bool false, .string (natS x.1), .string (natS x.2)]
def angC (L : List (Nat × Nat)) : List Value := L.flatMap fun x => [.int .u64 (x.1 : Int), .int .u64 (x.2 : Int)]
theorem ratC_snoc (L : List (Nat × Nat)) (p : Nat × Nat) : ratC (L ++ [p]) = ratC L ++ [.bool false, .string (natS p.1), .string (natS p.2)] := by simp [ratC]
theorem angC_snoc (L : List (Nat × Nat)) (p : Nat × Nat) : angC (L ++ [p]) = angC L ++ [.int .u64 (p.1 : Int), .int .u64 (p.2 : Int)] := by simp [angC]
theorem ratC_len (L : List (Nat × Nat)) : (ratC L).length = L.length * 3 := by
  induction L with
  | nil => rfl
  | cons x L ih =>
    have : ratC (x :: L) = [.bool false, .string (natS x.1), .string (natS x.2)] ++ ratC L := by simp [ratC]
    rw [this, List.length_append, ih]
    simp
    omega
theorem angC_len (L : List (Nat × Nat)) : (angC L).length = L.length * 2 := by
  induction L with
  | nil => rfl
  | cons x L ih =>
    have : angC (x :: L) = [.int .u64 (x.1 : Int), .int .u64 (x.2 : Int)] ++ angC L := by simp [angC]
    rw [this, List.length_append, ih]
    simp
    omega
theorem ratC_get : ∀ (L : List (Nat × Nat)) (j : Nat) (p : Nat × Nat), L[j]? = some p → (ratC L)[j * 3]? = some (.bool false) ∧ (ratC L)[j * 3 + 1]? = some (.string (natS p.1)) ∧ (ratC L)[j * 3 + 2]? = some (.string (natS p.2))
  | [], j, p, h => by simp at h
  | x :: L, 0, p, h => by
    simp at h; subst h
    have : ratC (x :: L) = [.bool false, .string (natS x.1), .string (natS x.2)] ++ ratC L := by simp [ratC]
    rw [this]
    simp
  | x :: L, j + 1, p, h => by
    have : ratC (x :: L) = [.bool false, .string (natS x.1), .string (natS x.2)] ++ ratC L := by simp [ratC]
    rw [this]
    have ih := ratC_get L j p (by simpa using h)
    rw [List.getElem?_append_right (by simp; omega), List.getElem?_append_right (by simp; omega), List.getElem?_append_right (by simp; omega)]
    simp only [List.length_cons, List.length_nil]
    rw [show (j + 1) * 3 - (0 + 1 + 1 + 1) = j * 3 by omega, show (j + 1) * 3 + 1 - (0 + 1 + 1 + 1) = j * 3 + 1 by omega, show (j + 1) * 3 + 2 - (0 + 1 + 1 + 1) = j * 3 + 2 by omega]
    exact ih
theorem angC_get : ∀ (L : List (Nat × Nat)) (j : Nat) (p : Nat × Nat), L[j]? = some p → (angC L)[j * 2]? = some (.int .u64 (p.1 : Int)) ∧ (angC L)[j * 2 + 1]? = some (.int .u64 (p.2 : Int))
  | [], j, p, h => by simp at h
  | x :: L, 0, p, h => by
    simp at h; subst h
    have : angC (x :: L) = [.int .u64 (x.1 : Int), .int .u64 (x.2 : Int)] ++ angC L := by simp [angC]
    rw [this]
    simp
  | x :: L, j + 1, p, h => by
    have : angC (x :: L) = [.int .u64 (x.1 : Int), .int .u64 (x.2 : Int)] ++ angC L := by simp [angC]
    rw [this]
    have ih := angC_get L j p (by simpa using h)
    rw [List.getElem?_append_right (by simp; omega), List.getElem?_append_right (by simp; omega)]
    simp only [List.length_cons, List.length_nil]
    rw [show (j + 1) * 2 - (0 + 1 + 1) = j * 2 by omega, show (j + 1) * 2 + 1 - (0 + 1 + 1) = j * 2 + 1 by omega]
    exact ih

theorem own_below {w w' : World} {base : Nat} {T : TypeId} {size : Nat} {v : Value} {n : Nat} {xs : List Value} (h : w.ownsRow base T size v n xs) (hb : Below w.heap.size w w') : w'.ownsRow base T size v n xs := by
  obtain ⟨hl, hc⟩ := h
  refine ⟨hl, ?_⟩
  rcases hc with hc | ⟨g, cap, cur, hv, hbase, hg, rest⟩
  · exact .inl hc
  · have hlt : g < w.heap.size := by
      rcases Nat.lt_or_ge g w.heap.size with h | h
      · exact h
      · rw [Array.getElem?_eq_none h] at hg; cases hg
    exact .inr ⟨g, cap, cur, hv, hbase, (hb.block g hlt).trans hg, rest⟩

/-- The outcome: a row of the call's own, and an error's number. -/
def RetRow (T : TypeId) (size : Nat) (c : Int) (n : Nat) (xs : List Value) (w : World) (e : Ending) (w' : World) : Prop :=
  ∃ v, e = .returned (.tuple #[v, .int .i64 c]) ∧ w'.ownsRow w.heap.size T size v n xs ∧ Below w.heap.size w w'

/-- filigreeref21.Round -/
theorem rround_any (d : Int) (w : World) : Calls Tryz.prog 70 #[.int .i64 d] w fun e w' => e = .returned (.bool (roundB d)) ∧ w = w' := by
  by_cases h : 2 ≤ d
  · by_cases h2 : d ≤ 64
    · have HB : Hid (roundB d = true) := Lib.hid (roundB_iff.2 ⟨h, h2⟩)
      go_enter Tryz.func70, Tryz.ntmps70
      go_wp2
      go_ret
      exact ⟨by rw [HB.out]; rfl, rfl⟩
    · have HB : Hid (roundB d = false) := Lib.hid (by simp [roundB]; omega)
      have h2' : decide (d ≤ 64) = false := by simp; omega
      go_enter Tryz.func70, Tryz.ntmps70
      go_wp2
      go_ret
      exact ⟨by rw [HB.out]; rfl, rfl⟩
  · have HB : Hid (roundB d = false) := Lib.hid (by simp [roundB]; omega)
    have h' : decide (2 ≤ d) = false := by simp; omega
    go_enter Tryz.func70, Tryz.ntmps70
    go_wp2
    go_ret
    exact ⟨by rw [HB.out]; rfl, rfl⟩

set_option maxRecDepth 100000 in
set_option maxHeartbeats 1000000 in
/-- filigreeref21.Turn -/
theorem rturn_any (x y d X N D : Nat) (w : World) (k : x ≤ 2147483647) (l0 : 0 < y) (l : y ≤ 2147483647) (hd : d ≤ 64) (hX : Hid (X = x * d % y)) (hN : Hid (N = X / Nat.gcd X y)) (hD : Hid (D = y / Nat.gcd X y)) :
    Calls Tryz.prog 71 #[.agg #[.int .u64 (x : Int), .int .u64 (y : Int)], .int .i64 (d : Int)] w (RetPart N D w) := by
  obtain ⟨S, hS⟩ : ∃ S, S = x * d := ⟨_, rfl⟩
  have hSs : S ≤ 2147483647 * 64 := by rw [hS]; exact Nat.mul_le_mul k hd
  have hSi : (x : Int) * (d : Int) = (S : Int) := by rw [hS]; push_cast; rfl
  have hX2 : Hid (X = S % y) := Lib.hid (by rw [hX.out, hS])
  have b1 : Hid (S < 18446744073709551616) := Lib.hid (by omega)
  have b2 : Hid (y < 18446744073709551616) := Lib.hid (by omega)
  have b0 : Hid (0 < y) := Lib.hid l0
  have wd : IntKind.u64.wrap (d : Int) = (d : Int) := by rw [IntKind.wrap_u64]; omega
  have ws : IntKind.u64.wrap (S : Int) = (S : Int) := by rw [IntKind.wrap_u64]; omega
  have hK2 := Blk.new (w.alloc (.cells #[.int .u64 (x : Int), .int .u64 (y : Int)] 42)) 42 #[.int .u64 0, .int .u64 0]
  have hBW : Below w.heap.size w ((w.alloc (.cells #[.int .u64 (x : Int), .int .u64 (y : Int)] 42)).alloc (.cells #[.int .u64 0, .int .u64 0] 42)) := ((Below.refl _ w).alloc (Nat.le_refl _) _).alloc (by simp) _
  rw [show (w.alloc (.cells #[.int .u64 (x : Int), .int .u64 (y : Int)] 42)).heap.size = w.heap.size + 1 by simp] at hK2
  replace hK2 := Lib.hid hK2
  replace hBW := Lib.hid hBW
  clear hS
  go_enter Tryz.func71, Tryz.ntmps71
  go_wp2_with fail
  refine (low_any S y X N D _ b1.out b2.out b0.out hX2 hN hD).mono ?_
  rintro e w1 ⟨rfl, hb⟩
  have r2 := Blk.below hK2.out hb
  have hB1 := Lib.hid (hBW.out.trans (hb.mono (by simp; omega)))
  have k0 : w1.cell? ⟨w.heap.size + 1, 0, none⟩ = some (.int .u64 0) := r2.cell 0
  have k1 : w1.cell? ⟨w.heap.size + 1, 1, none⟩ = some (.int .u64 0) := r2.cell 1
  have f0 := r2.frozen 0
  have f1 := r2.frozen 1
  clear hb hK2 hBW r2
  go_wp2
  refine bodyPost_ret (v := .agg #[.int .u64 (N : Int), .int .u64 (D : Int)]) (by simp [results, Tryz.results71, go_sem, k0, k1]) rfl ⟨rfl, ?_⟩
  exact (hB1.out.setCell (p := ⟨w.heap.size + 1, 0, none⟩) (by simp) _).setCell (p := ⟨w.heap.size + 1, 1, none⟩) (by simp) _

end Go.Proofs.YtoaggmegmgdgbaaGreat

namespace Go.Proofs.YtoaggmegmgdgbaaGreat
open Go.RowKit

theorem own_le {w : World} {base base' : Nat} {T : TypeId} {size : Nat} {v : Value} {n : Nat} {xs : List Value} (h : w.ownsRow base T size v n xs) (hb : base' ≤ base) : w.ownsRow base' T size v n xs := by
  obtain ⟨hl, hc⟩ := h
  refine ⟨hl, ?_⟩
  rcases hc with hc | ⟨g, cap, cur, hv, hbase, rest⟩
  · exact .inl hc
  · exact .inr ⟨g, cap, cur, hv, Nat.le_trans hb hbase, rest⟩

theorem info_ratio : (Tryz.prog.info? 26).map (fun i => (i.zero, i.size, i.bytes)) = some (some (.agg #[.bool false, .string ⟨#[]⟩, .string ⟨#[]⟩]), 3, 40) := by kernel_rfl
theorem info_angle : (Tryz.prog.info? 42).map (fun i => (i.zero, i.size, i.bytes)) = some (some (.agg #[.int .u64 0, .int .u64 0]), 2, 16) := by kernel_rfl

/-- The error's number and the list of the preimages. -/
def backE (x y d : Nat) : Int := if backOk x y d then 0 else 210
def backR (x y d : Nat) : List (Nat × Nat) := if backOk x y d then backL x y d else []

theorem backOk_no {x y d k : Nat} (h : k < d) (hd : ¬ (bkN x y d k).2 ≤ 2147483647) : backOk x y d = false := by
  unfold backOk
  rw [List.all_eq_false]
  exact ⟨_, List.mem_of_getElem? (backL_get h), by simpa using hd⟩
theorem backOk_yes {x y d : Nat} (h : ∀ k, k < d → (bkN x y d k).2 ≤ 2147483647) : backOk x y d = true := by
  unfold backOk
  rw [List.all_eq_true]
  intro p hp
  obtain ⟨k, hk, rfl⟩ := List.mem_map.1 hp
  simpa using h k (List.mem_range.1 hk)
theorem backL_take {x y d k : Nat} (h : k < d) : (backL x y d).take (k + 1) = (backL x y d).take k ++ [bkN x y d k] := by
  have hlt : k < (backL x y d).length := by rw [backL_len]; exact h
  have e : (backL x y d)[k] = bkN x y d k := by
    have := backL_get (x := x) (y := y) h
    rw [List.getElem?_eq_getElem hlt] at this
    exact Option.some.inj this
  rw [List.take_succ_eq_append_getElem hlt, e]

end Go.Proofs.YtoaggmegmgdgbaaGreat

namespace Go.Proofs.YtoaggmegmgdgbaaGreat
open Go.RowKit

def abackE (neg : Bool) (num den : ByteArray) (d : Int) : Int := if okA neg num den then if roundB d then backE (be (sl num)) (be (sl den)) d.toNat else 2 else 210
def abackR (neg : Bool) (num den : ByteArray) (d : Int) : List (Nat × Nat) := if okA neg num den then if roundB d then backR (be (sl num)) (be (sl den)) d.toNat else [] else []

end Go.Proofs.YtoaggmegmgdgbaaGreat

namespace Go.Proofs.YtoaggmegmgdgbaaGreat
open Go.RowKit Go.Sort

theorem own_forms {w : World} {base : Nat} {T : TypeId} {size : Nat} {v : Value} {n : Nat} {xs : List Value} (h : w.ownsRow base T size v n xs) : (v = .slice none 0 0 ∧ n = 0) ∨ ∃ g cap, v = .slice (some ⟨g, 0, none⟩) n cap := by
  rcases h.2 with hc | ⟨g, cap, cur, hv, -⟩
  · exact .inl hc
  · exact .inr ⟨g, cap, hv⟩

theorem grown_refl (w : World) (row : Option Nat) : w.grownBy w row := ⟨rfl, rfl, rfl, Nat.le_refl _, fun _ _ _ => rfl⟩
theorem grown_trans {a b c : World} {row : Option Nat} (h : a.grownBy b row) (k : b.grownBy c row) : a.grownBy c row :=
  ⟨k.os.trans h.os, k.tape.trans h.tape, k.output.trans h.output, Nat.le_trans h.size k.size, fun j hj hr => (k.block j (Nat.lt_of_lt_of_le hj h.size) hr).trans (h.block j hj hr)⟩
theorem grown_below {a b : World} {row : Option Nat} (h : Below a.heap.size a b) : a.grownBy b row := ⟨h.os, h.tape, h.output, h.size, fun j hj _ => h.block j hj⟩

end Go.Proofs.YtoaggmegmgdgbaaGreat
