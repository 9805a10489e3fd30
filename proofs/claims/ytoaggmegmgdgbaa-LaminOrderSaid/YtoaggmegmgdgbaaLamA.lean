/- Package lamin: cmp, below, order, leaf, within, end, parts, crosses. -/
import Derived.Test.YtoaggmegmgdgbaaRnd
namespace Go.Proofs.Ytoaggmegmgdgbaa
open Go.RowKit Go.Sort

theorem natS_injA {a b : Nat} (h : natS a = natS b) : a = b := by rw [← be_natS a, h, be_natS]
/-- An angle, as two numbers. -/
def Ang (p : Nat × Nat) : Prop := Nat.gcd p.1 p.2 = 1 ∧ p.1 < p.2 ∧ p.2 ≤ 2147483647
/-- How two angles stand. -/
def cmpP (p q : Nat × Nat) : Int := cmpN (p.1 * q.2) (q.1 * p.2)
theorem Ang.ok {p : Nat × Nat} (h : Ang p) : okA false (natS p.1) (natS p.2) = true := okA_natS h.1 h.2.1 h.2.2
theorem Ang.of_ok {n : Bool} {a d : ByteArray} (h : okA n a d = true) : Ang (be (sl a), be (sl d)) ∧ n = false ∧ a = natS (be (sl a)) ∧ d = natS (be (sl d)) := by
  obtain ⟨h1, h2, h3, h4, h5, h6⟩ := okA_spec h
  exact ⟨⟨h4, h5, h6⟩, h1, (natS_be h2).symm, (natS_be h3).symm⟩
theorem cmpP_refl (p : Nat × Nat) : cmpP p p = 0 := by simp [cmpP, cmpN]
theorem cmpP_eq {p q : Nat × Nat} (hp : Ang p) (hq : Ang q) : cmpP p q = 0 ↔ p = q := by
  constructor
  · intro h
    have h1 : p.1 * q.2 = q.1 * p.2 := by
      unfold cmpP cmpN at h
      split at h
      · cases h
      · split at h
        · cases h
        · omega
    obtain ⟨-, h2, h3⟩ := okA_inj hp.ok hq.ok (by rw [be_natS, be_natS, be_natS, be_natS]; exact h1)
    exact Prod.ext (natS_injA h2) (natS_injA h3)
  · rintro rfl
    exact cmpP_refl _
theorem cmpP_lt {p q : Nat × Nat} : cmpP p q < 0 ↔ p.1 * q.2 < q.1 * p.2 := by
  unfold cmpP cmpN
  split
  · rename_i h; simp [h]
  · split <;> simp <;> omega
theorem cmpP_gt {p q : Nat × Nat} : 0 < cmpP p q ↔ q.1 * p.2 < p.1 * q.2 := by
  unfold cmpP cmpN
  split
  · rename_i h; simp; omega
  · split
    · rename_i h; simp [h]
    · simp; omega
theorem cmpP_anti {p q : Nat × Nat} : cmpP q p < 0 ↔ 0 < cmpP p q := by rw [cmpP_lt, cmpP_gt]
theorem cmpP_bd (p q : Nat × Nat) : cmpP p q = -1 ∨ cmpP p q = 0 ∨ cmpP p q = 1 := by
  unfold cmpP cmpN
  split
  · exact .inl rfl
  · split
    · exact .inr (.inr rfl)
    · exact .inr (.inl rfl)
theorem Ang.pos {p : Nat × Nat} (h : Ang p) : 0 < p.2 := by have := h.2.1; omega
theorem cmpP_trans {p q r : Nat × Nat} (_hq : 0 < q.2) (hr : 0 < r.2) (h1 : cmpP p q < 0) (h2 : cmpP q r < 0) : cmpP p r < 0 := by
  rw [cmpP_lt] at *
  have a1 := Nat.mul_lt_mul_of_pos_right h1 hr
  have a2 := Nat.mul_le_mul_right p.2 (Nat.le_of_lt h2)
  refine Nat.lt_of_mul_lt_mul_right (a := q.2) ?_
  have e1 : p.1 * r.2 * q.2 = p.1 * q.2 * r.2 := by ac_rfl
  have e2 : q.1 * p.2 * r.2 = q.1 * r.2 * p.2 := by ac_rfl
  have e3 : r.1 * p.2 * q.2 = r.1 * q.2 * p.2 := by ac_rfl
  omega

/-- A leaf's cells. -/
def leafE (l : (Nat × Nat) × (Nat × Nat)) : List Value := [.bool false, .string (natS l.1.1), .string (natS l.1.2), .bool false, .string (natS l.2.1), .string (natS l.2.2)]
/-- How two leaves stand. -/
def ordL (l m : (Nat × Nat) × (Nat × Nat)) : Int := if cmpP l.1 m.1 = 0 then cmpP l.2 m.2 else cmpP l.1 m.1

set_option maxRecDepth 100000 in
set_option maxHeartbeats 1000000 in
/-- lamin.cmp -/
theorem lcmp_any (p q : Nat × Nat) (w : World) (hp : Ang p) (hq : Ang q) :
    Calls Try.prog 31 #[.agg #[.bool false, .string (natS p.1), .string (natS p.2)], .agg #[.bool false, .string (natS q.1), .string (natS q.2)]] w (RetVal (.int .i64 (cmpP p q)) w) := by
  have hC : Hid (∀ W, Calls Try.prog 48 #[.agg #[.bool false, .string (natS p.1), .string (natS p.2)], .agg #[.bool false, .string (natS q.1), .string (natS q.2)]] W (RetVal (.tuple #[.int .i64 (cmpP p q), .int .i64 0]) W)) := Lib.hid (fun W => by
    have h := acmp_any false (natS p.1) (natS p.2) false (natS q.1) (natS q.2) W (okA_size hp.ok).1 (okA_size hp.ok).2 (okA_size hq.ok).1 (okA_size hq.ok).2
    have e : acmpV false (natS p.1) (natS p.2) false (natS q.1) (natS q.2) = .tuple #[.int .i64 (cmpP p q), .int .i64 0] := by
      rw [acmpV, hp.ok, hq.ok, if_pos (by rfl), be_natS, be_natS, be_natS, be_natS]; rfl
    rw [e] at h
    exact h)
  obtain ⟨c, hc⟩ : ∃ c, c = cmpP p q := ⟨_, rfl⟩
  rw [← hc] at hC ⊢
  obtain ⟨a1, ha1⟩ : ∃ a, a = natS p.1 := ⟨_, rfl⟩
  obtain ⟨d1, hd1⟩ : ∃ a, a = natS p.2 := ⟨_, rfl⟩
  obtain ⟨a2, ha2⟩ : ∃ a, a = natS q.1 := ⟨_, rfl⟩
  obtain ⟨d2, hd2⟩ : ∃ a, a = natS q.2 := ⟨_, rfl⟩
  rw [← ha1, ← hd1, ← ha2, ← hd2] at hC ⊢
  have hBW : Hid (Below w.heap.size w ((w.alloc (.cells #[.bool false, .string a1, .string d1] 25)).alloc (.cells #[.bool false, .string a2, .string d2] 25))) := Lib.hid (((Below.refl _ w).alloc (Nat.le_refl _) _).alloc (by simp) _)
  clear hc ha1 hd1 ha2 hd2 hp hq
  go_enter Try.func31, Try.ntmps31
  go_wp2_with fail
  refine (hC.out _).mono ?_
  rintro en w1 ⟨rfl, hb⟩
  have hB := Lib.hid (hBW.out.trans (hb.mono hBW.out.size))
  clear hb hBW hC
  go_wp2_with fail
  go_ret
  exact ⟨rfl, hB.out⟩
end Go.Proofs.Ytoaggmegmgdgbaa
