/- wide.digits: plus, less, times. -/
import Derived.Test.YtciafmnideihjaaBig
namespace Go.Proofs.Ytciafmnideihjaa
open Go.RowKit

/-- After k digits of a sum: what is written, and the carry. -/
structure PlInv (la lb : List Nat) (k c : Nat) (O : List Nat) : Prop where
  len : O.length = la.length + 1
  sm : Sm O
  value : val (O.take k) + 4294967296 ^ k * c = val (la.take k) + val (lb.take k)
  carry : c ≤ 1
theorem PlInv.start (la lb : List Nat) : PlInv la lb 0 0 (List.replicate (la.length + 1) 0) := ⟨by simp, sm_replicate _, by simp [val], by omega⟩
theorem val_take_set {O : List Nat} {k d : Nat} (hk : k < O.length) : val ((O.set k d).take (k + 1)) = val (O.take k) + 4294967296 ^ k * d := by
  have e1 := val_take_succ (l := O.set k d) (j := k) (x := d) (by rw [List.getElem?_set_self hk])
  rw [List.take_set_of_le (Nat.le_refl _)] at e1
  exact e1
theorem split_mul (B S T : Nat) : B * (S % 4294967296) + B * 4294967296 * (S / 4294967296) + T = B * S + T := by
  rw [Nat.mul_assoc, ← Nat.mul_add, Nat.mod_add_div]
theorem PlInv.step {la lb : List Nat} {k c x y : Nat} {O : List Nat} (h : PlInv la lb k c O) (hx : la[k]? = some x) (hy : lb[k]? = some y ∨ (lb.length ≤ k ∧ y = 0)) (hxs : x < 4294967296) (hys : y < 4294967296) :
    PlInv la lb (k + 1) ((c + x + y) / 4294967296) (O.set k ((c + x + y) % 4294967296)) := by
  have hk := lt_of_getElem? hx
  have hc := h.carry
  have ev := h.value
  have e2 := val_take_succ hx
  have e3 : val (lb.take (k + 1)) = val (lb.take k) + 4294967296 ^ k * y := by
    rcases hy with hy | ⟨hy, rfl⟩
    · exact val_take_succ hy
    · rw [List.take_of_length_le (by omega), List.take_of_length_le hy]; simp
  refine ⟨by simp [h.len], h.sm.set_ (Nat.mod_lt _ (by omega)), ?_, by omega⟩
  rw [val_take_set (by rw [h.len]; omega), e2, e3, Nat.pow_succ]
  generalize 4294967296 ^ k = B at *
  have e4 := split_mul B (c + x + y) (val (O.take k))
  have e5 : B * (c + x + y) = B * c + B * x + B * y := by rw [Nat.mul_add, Nat.mul_add]
  omega
theorem PlInv.done {la lb : List Nat} {c : Nat} {O : List Nat} (h : PlInv la lb la.length c O) (hl : lb.length ≤ la.length) : Sm (O.set la.length c) ∧ (O.set la.length c).length = la.length + 1 ∧ val (O.set la.length c) = val la + val lb := by
  refine ⟨h.sm.set_ (by have := h.carry; omega), by simp [h.len], ?_⟩
  have e1 := val_take_set (O := O) (k := la.length) (d := c) (by rw [h.len]; omega)
  rw [List.take_of_length_le (by simp [h.len])] at e1
  rw [e1, h.value, List.take_length, List.take_of_length_le hl]

/-- After k digits of a difference: what is written, and the borrow. -/
structure LsInv (la lb : List Nat) (k c : Nat) (O : List Nat) : Prop where
  len : O.length = la.length
  sm : Sm O
  value : val (O.take k) + val (lb.take k) = val (la.take k) + 4294967296 ^ k * c
  carry : c ≤ 1
theorem LsInv.start (la lb : List Nat) : LsInv la lb 0 0 (List.replicate la.length 0) := ⟨by simp, sm_replicate _, by simp [val], by omega⟩
theorem LsInv.step {la lb : List Nat} {k c x y d c' : Nat} {O : List Nat} (h : LsInv la lb k c O) (hx : la[k]? = some x) (hy : lb[k]? = some y ∨ (lb.length ≤ k ∧ y = 0)) (hd : d < 4294967296) (hc' : c' ≤ 1) (he : d + c + y = x + 4294967296 * c') :
    LsInv la lb (k + 1) c' (O.set k d) := by
  have hk := lt_of_getElem? hx
  have ev := h.value
  have e2 := val_take_succ hx
  have e3 : val (lb.take (k + 1)) = val (lb.take k) + 4294967296 ^ k * y := by
    rcases hy with hy | ⟨hy, rfl⟩
    · exact val_take_succ hy
    · rw [List.take_of_length_le (by omega), List.take_of_length_le hy]; simp
  refine ⟨by simp [h.len], h.sm.set_ hd, ?_, hc'⟩
  rw [val_take_set (by rw [h.len]; omega), e2, e3, Nat.pow_succ]
  generalize 4294967296 ^ k = B at *
  have e4 : B * (d + c + y) = B * (x + 4294967296 * c') := by rw [he]
  rw [Nat.mul_add, Nat.mul_add, Nat.mul_add, ← Nat.mul_assoc] at e4
  omega
theorem LsInv.done {la lb : List Nat} {c : Nat} {O : List Nat} (h : LsInv la lb la.length c O) (hl : lb.length ≤ la.length) (hle : val lb ≤ val la) : val O = val la - val lb := by
  have ev := h.value
  rw [List.take_length, List.take_of_length_le hl, List.take_of_length_le (by rw [h.len]; exact Nat.le_refl _)] at ev
  have hlt := val_lt h.sm
  rw [h.len] at hlt
  have hc := h.carry
  rcases Nat.eq_zero_or_pos c with h0 | h0
  · rw [h0] at ev; omega
  · rw [show c = 1 by omega, Nat.mul_one] at ev
    omega

/-- Between the rounds of a product's row. -/
structure TmInv (la lb : List Nat) (i : Nat) (O : List Nat) : Prop where
  len : O.length = la.length + lb.length
  sm : Sm O
  value : val O = val (la.take i) * val lb
  zero : ∀ j, i + lb.length ≤ j → j < O.length → O[j]? = some 0
theorem TmInv.start (la lb : List Nat) : TmInv la lb 0 (List.replicate (la.length + lb.length) 0) :=
  ⟨by simp, sm_replicate _, by rw [val_replicate]; simp [val], fun j _ h => by rw [List.getElem?_replicate]; simp at h; simp [h]⟩
/-- Inside such a row. -/
structure TrInv (O0 lb : List Nat) (i x k c : Nat) (O : List Nat) : Prop where
  len : O.length = O0.length
  sm : Sm O
  value : val O + 4294967296 ^ (i + k) * c = val O0 + 4294967296 ^ i * (x * val (lb.take k))
  zero : ∀ j, i + lb.length ≤ j → O[j]? = O0[j]?
  carry : c < 4294967296
theorem TrInv.start {O0 lb : List Nat} {i x : Nat} (h : Sm O0) : TrInv O0 lb i x 0 0 O0 := ⟨rfl, h, by simp [val], fun _ _ => rfl, by omega⟩
theorem mul_bound {c x y z : Nat} (hc : c < 4294967296) (hx : x < 4294967296) (hy : y < 4294967296) (hz : z < 4294967296) : x * y ≤ 18446744065119617025 ∧ x * y + z ≤ 18446744069414584320 ∧ c + (x * y + z) ≤ 18446744073709551615 := by
  have := Nat.mul_le_mul (show x ≤ 4294967295 by omega) (show y ≤ 4294967295 by omega)
  omega
theorem TrInv.step {O0 lb : List Nat} {i x k c y z : Nat} {O : List Nat} (h : TrInv O0 lb i x k c O) (hy : lb[k]? = some y) (hz : O[i + k]? = some z) (hx : x < 4294967296) (hys : y < 4294967296) :
    TrInv O0 lb i x (k + 1) ((c + (x * y + z)) / 4294967296) (O.set (i + k) ((c + (x * y + z)) % 4294967296)) := by
  have hk := lt_of_getElem? hy
  have hzs : z < 4294967296 := h.sm.get hz
  have hb := (mul_bound h.carry hx hys hzs).2.2
  refine ⟨by simp [h.len], h.sm.set_ (Nat.mod_lt _ (by omega)), ?_, fun j hj => ?_, by omega⟩
  · have e1 := val_set ((c + (x * y + z)) % 4294967296) hz
    have e2 := val_take_succ hy
    have ev := h.value
    rw [e2, ← Nat.add_assoc i k 1, Nat.pow_succ]
    rw [Nat.mul_add x, Nat.mul_add (4294967296 ^ i), Nat.mul_left_comm x (4294967296 ^ k) y, ← Nat.mul_assoc (4294967296 ^ i) (4294967296 ^ k), ← Nat.pow_add]
    generalize 4294967296 ^ (i + k) = B at *
    have e4 := split_mul B (c + (x * y + z)) 0
    have e5 : B * (c + (x * y + z)) = B * c + B * (x * y) + B * z := by rw [Nat.mul_add, Nat.mul_add]; omega
    omega
  · rw [List.getElem?_set_ne (by omega)]
    exact h.zero j hj
theorem TmInv.step {la lb : List Nat} {i x c : Nat} {O0 O : List Nat} (h : TmInv la lb i O0) (hx : la[i]? = some x) (hr : TrInv O0 lb i x lb.length c O) : TmInv la lb (i + 1) (O.set (i + lb.length) c) := by
  have hi := lt_of_getElem? hx
  have hz : O[i + lb.length]? = some 0 := by rw [hr.zero _ (Nat.le_refl _)]; exact h.zero _ (Nat.le_refl _) (by rw [h.len]; omega)
  refine ⟨by simp [hr.len, h.len], hr.sm.set_ hr.carry, ?_, fun j hj hlt => ?_⟩
  · have e1 := val_set c hz
    have e2 := val_take_succ hx
    have ev := hr.value
    rw [List.take_length] at ev
    rw [e2, Nat.add_mul, ← h.value, Nat.mul_assoc]
    omega
  · rw [List.getElem?_set_ne (by omega), hr.zero _ (by omega)]
    exact h.zero j (by omega) (by simp [hr.len] at hlt; exact hlt)

set_option maxRecDepth 100000 in
set_option maxHeartbeats 1000000 in
/-- digits.plus -/
theorem plus_any (va vb : Value) (a b : Nat) (w : World) (ha : Dg w va a) (hb : Dg w vb b) (hla : (dg a).length ≤ 1073741824) (hlb : (dg b).length ≤ 1073741824) :
    Calls Try.prog 104 #[va, vb] w (RetDg (a + b) w) := by
  obtain ⟨Aa, ca, rfl, ha1, ha2, ha3⟩ := id ha
  replace ha := Lib.hid ha
  replace ha3 := Lib.hid ha3
  obtain ⟨Ab, cb, rfl, hb1, hb2, hb3⟩ := id hb
  replace hb := Lib.hid hb
  replace hb3 := Lib.hid hb3
  by_cases hle : (dg a).length < (dg b).length
  · obtain ⟨N, hN⟩ : ∃ N, N = (dg b).length := ⟨_, rfl⟩
    obtain ⟨M, hM⟩ : ∃ M, M = (dg a).length := ⟨_, rfl⟩
    have hmk := make_u32 (N + 1) (by omega)
    have hmk' : ∀ w : World, (Instr.makeSlice 118 (.int .i64 ((N : Int) + 1)) (.int .i64 ((N : Int) + 1))).run Try.prog w = .ok (.slice (some ⟨w.heap.size, 0, none⟩) (N + 1) (N + 1)) (w.alloc (.cells (ivs .u32 (List.replicate (N + 1) 0)).toArray 143)) := fun w => hmk w
    have hMN : M ≤ N := by omega
    have hNs : N ≤ 1073741824 := by omega
    have hltI : (M : Int) < (N : Int) := by omega
    rw [← hN, ← hM]
    have hlt := hltI
    replace hN := Lib.hid hN
    replace hM := Lib.hid hM
    clear hmk
    go_enter Try.func104, Try.ntmps104
    go_wp2
    have hA0 := Arr.new w .u32 143 (List.replicate (N + 1) 0)
    have hB0 : Below w.heap.size w (w.alloc (.cells (ivs .u32 (List.replicate (N + 1) 0)).toArray 143)) := (Below.refl _ _).alloc (Nat.le_refl _) _
    generalize hw0 : w.alloc (.cells (ivs .u32 (List.replicate (N + 1) 0)).toArray 143) = w0 at hA0 hB0 ⊢
    generalize hg : w.heap.size = g at *
    replace hg := Lib.hid hg
    clear hw0 hmk' hlt hle hltI
    go_loopw [6, 21] (fun cc i wr => ∃ (k c : Nat) (O : List Nat), i = .int .i64 (k : Int) ∧ cc = .int .u64 (c : Int) ∧ k ≤ N ∧ PlInv (dg b) (dg a) k c O ∧ Arr wr g .u32 143 O ∧ Below g w wr) (fun _ i _ => N - (intOf i).toNat)
    case atStart => exact ⟨0, 0, List.replicate (N + 1) 0, rfl, rfl, Nat.zero_le _, by rw [hN.out]; exact PlInv.start _ _, hA0, hB0⟩
    case round =>
      obtain ⟨k, c, O, rfl, rfl, hk, hI, hA, hB⟩ := hrel
      have hc1 := hI.carry
      have hOl : O.length = N + 1 := by rw [hI.len, ← hN.out]
      replace hOl := Lib.hid hOl
      replace hI := Lib.hid hI
      by_cases h0 : k < N
      · have h0I : (k : Int) < (N : Int) := by omega
        obtain ⟨x, hx⟩ : ∃ x, (dg b)[k]? = some x := ⟨_, List.getElem?_eq_getElem (by rw [← hN.out]; omega)⟩
        have hxs : x < 4294967296 := getElem?_dg hx
        obtain ⟨ga, oa, ca', La, ea, -, -, hAa, hLa⟩ := hb.out.open_ (fun e => by have := hN.out; rw [e] at this; simp at this; omega)
        injection ea with ea1 _ ea2
        subst ea1 ea2
        have hcx : wr.cell? ⟨ga, oa + k, none⟩ = some (.int .u32 (x : Int)) := (hB.cell (by have := hAa.lt; rw [hg.out] at this; exact this)).trans (hAa.cell (hLa _ _ hx))
        obtain ⟨z, hz⟩ : ∃ z, O[k]? = some z := ⟨_, List.getElem?_eq_getElem (by rw [hOl.out]; omega)⟩
        have hcz : wr.cell? ⟨g, k, none⟩ = some (.int .u32 (z : Int)) := hA.cell hz
        have hfz : wr.frozen? ⟨g, k, none⟩ = false := hA.frozen _
        by_cases h1 : k < M
        · have h1I : (k : Int) < (M : Int) := by omega
          obtain ⟨y, hy⟩ : ∃ y, (dg a)[k]? = some y := ⟨_, List.getElem?_eq_getElem (by rw [← hM.out]; omega)⟩
          have hys : y < 4294967296 := getElem?_dg hy
          obtain ⟨gb, ob, cb', Lb, eb, -, -, hAb, hLb⟩ := ha.out.open_ (fun e => by have := hM.out; rw [e] at this; simp at this; omega)
          injection eb with eb1 _ eb2
          subst eb1 eb2
          have hcy : wr.cell? ⟨gb, ob + k, none⟩ = some (.int .u32 (y : Int)) := (hB.cell (by have := hAb.lt; rw [hg.out] at this; exact this)).trans (hAb.cell (hLb _ _ hy))
          have hst := hI.out.step hx (Or.inl hy) hxs hys
          obtain ⟨d, hd⟩ : ∃ d, d = (c + x + y) % 4294967296 := ⟨_, rfl⟩
          obtain ⟨e, he⟩ : ∃ e, e = (c + x + y) / 4294967296 := ⟨_, rfl⟩
          rw [← hd, ← he] at hst
          have hdi : ((c : Int) + (x : Int) + (y : Int)) % 4294967296 = (d : Int) := by omega
          have hei : ((c : Int) + (x : Int) + (y : Int)) / 4294967296 = (e : Int) := by omega
          replace hst := Lib.hid hst
          clear hx hy hz hd he
          go_wp2
          go_roundw
          case rel => exact ⟨k + 1, e, _, by go_num, rfl, by omega, hst.out, hA.set_ _ _, hB.setCell (Nat.le_refl _) _⟩
          case measure => simp [intOf]; omega
        · have h1I : ¬ (k : Int) < (M : Int) := by omega
          have hst := hI.out.step (y := 0) hx (Or.inr ⟨by rw [← hM.out]; omega, rfl⟩) hxs (by omega)
          simp only [Nat.add_zero] at hst
          obtain ⟨d, hd⟩ : ∃ d, d = (c + x) % 4294967296 := ⟨_, rfl⟩
          obtain ⟨e, he⟩ : ∃ e, e = (c + x) / 4294967296 := ⟨_, rfl⟩
          rw [← hd, ← he] at hst
          have hdi : ((c : Int) + (x : Int)) % 4294967296 = (d : Int) := by omega
          have hei : ((c : Int) + (x : Int)) / 4294967296 = (e : Int) := by omega
          replace hst := Lib.hid hst
          clear hx hz hd he
          go_wp2
          go_roundw
          case rel => exact ⟨k + 1, e, _, by go_num, rfl, by omega, hst.out, hA.set_ _ _, hB.setCell (Nat.le_refl _) _⟩
          case measure => simp [intOf]; omega
      · obtain rfl : k = N := by omega
        obtain ⟨z, hz⟩ : ∃ z, O[k]? = some z := ⟨_, List.getElem?_eq_getElem (by rw [hOl.out]; omega)⟩
        have hcz : wr.cell? ⟨g, k, none⟩ = some (.int .u32 (z : Int)) := hA.cell hz
        have hfz : wr.frozen? ⟨g, k, none⟩ = false := hA.frozen _
        have hdone := (by have h := hI.out; rw [hN.out] at h; exact h : PlInv (dg b) (dg a) (dg b).length c O).done (by rw [← hN.out, ← hM.out]; exact hMN)
        rw [← hN.out] at hdone
        obtain ⟨d1, d2, d3⟩ := hdone
        rw [val_dg, val_dg] at d3
        have hci : (c : Int) % 4294967296 = (c : Int) := by omega
        have hA2 := hA.set_ k c
        have hB2 : Below g w (wr.setCell ⟨g, k, none⟩ (.int .u32 (c : Int))) := hB.setCell (Nat.le_refl _) _
        have hR : Rd .u32 143 (wr.setCell ⟨g, k, none⟩ (.int .u32 (c : Int))) (.slice (some ⟨g, 0, none⟩) (k + 1) (k + 1)) (O.set k c) := by
          have := Rd.whole hA2 (by rw [d2]; unfold maxLen; omega)
          rwa [d2] at this
        replace d3 := Lib.hid d3
        replace hB2 := Lib.hid hB2
        replace hR := Lib.hid hR
        clear hz hA2 d2
        go_wp2_with fail
        refine (cut_any _ (O.set k c) _ hR.out d1).mono ?_
        rintro e w1 ⟨v, rfl, hv, rfl⟩
        replace hv := Lib.hid hv
        go_wp2
        go_ret
        refine ⟨v, rfl, by rw [Nat.add_comm, ← d3.out]; exact hv.out, ?_⟩
        rw [hg.out]
        exact hB2.out
  · obtain ⟨N, hN⟩ : ∃ N, N = (dg a).length := ⟨_, rfl⟩
    obtain ⟨M, hM⟩ : ∃ M, M = (dg b).length := ⟨_, rfl⟩
    have hmk := make_u32 (N + 1) (by omega)
    have hmk' : ∀ w : World, (Instr.makeSlice 118 (.int .i64 ((N : Int) + 1)) (.int .i64 ((N : Int) + 1))).run Try.prog w = .ok (.slice (some ⟨w.heap.size, 0, none⟩) (N + 1) (N + 1)) (w.alloc (.cells (ivs .u32 (List.replicate (N + 1) 0)).toArray 143)) := fun w => hmk w
    have hMN : M ≤ N := by omega
    have hNs : N ≤ 1073741824 := by omega
    have hltI : ¬ (N : Int) < (M : Int) := by omega
    rw [← hN, ← hM]
    have hlt := hltI
    replace hN := Lib.hid hN
    replace hM := Lib.hid hM
    clear hmk
    go_enter Try.func104, Try.ntmps104
    go_wp2
    have hA0 := Arr.new w .u32 143 (List.replicate (N + 1) 0)
    have hB0 : Below w.heap.size w (w.alloc (.cells (ivs .u32 (List.replicate (N + 1) 0)).toArray 143)) := (Below.refl _ _).alloc (Nat.le_refl _) _
    generalize hw0 : w.alloc (.cells (ivs .u32 (List.replicate (N + 1) 0)).toArray 143) = w0 at hA0 hB0 ⊢
    generalize hg : w.heap.size = g at *
    replace hg := Lib.hid hg
    clear hw0 hmk' hlt hle hltI
    go_loopw [6, 21] (fun cc i wr => ∃ (k c : Nat) (O : List Nat), i = .int .i64 (k : Int) ∧ cc = .int .u64 (c : Int) ∧ k ≤ N ∧ PlInv (dg a) (dg b) k c O ∧ Arr wr g .u32 143 O ∧ Below g w wr) (fun _ i _ => N - (intOf i).toNat)
    case atStart => exact ⟨0, 0, List.replicate (N + 1) 0, rfl, rfl, Nat.zero_le _, by rw [hN.out]; exact PlInv.start _ _, hA0, hB0⟩
    case round =>
      obtain ⟨k, c, O, rfl, rfl, hk, hI, hA, hB⟩ := hrel
      have hc1 := hI.carry
      have hOl : O.length = N + 1 := by rw [hI.len, ← hN.out]
      replace hOl := Lib.hid hOl
      replace hI := Lib.hid hI
      by_cases h0 : k < N
      · have h0I : (k : Int) < (N : Int) := by omega
        obtain ⟨x, hx⟩ : ∃ x, (dg a)[k]? = some x := ⟨_, List.getElem?_eq_getElem (by rw [← hN.out]; omega)⟩
        have hxs : x < 4294967296 := getElem?_dg hx
        obtain ⟨ga, oa, ca', La, ea, -, -, hAa, hLa⟩ := ha.out.open_ (fun e => by have := hN.out; rw [e] at this; simp at this; omega)
        injection ea with ea1 _ ea2
        subst ea1 ea2
        have hcx : wr.cell? ⟨ga, oa + k, none⟩ = some (.int .u32 (x : Int)) := (hB.cell (by have := hAa.lt; rw [hg.out] at this; exact this)).trans (hAa.cell (hLa _ _ hx))
        obtain ⟨z, hz⟩ : ∃ z, O[k]? = some z := ⟨_, List.getElem?_eq_getElem (by rw [hOl.out]; omega)⟩
        have hcz : wr.cell? ⟨g, k, none⟩ = some (.int .u32 (z : Int)) := hA.cell hz
        have hfz : wr.frozen? ⟨g, k, none⟩ = false := hA.frozen _
        by_cases h1 : k < M
        · have h1I : (k : Int) < (M : Int) := by omega
          obtain ⟨y, hy⟩ : ∃ y, (dg b)[k]? = some y := ⟨_, List.getElem?_eq_getElem (by rw [← hM.out]; omega)⟩
          have hys : y < 4294967296 := getElem?_dg hy
          obtain ⟨gb, ob, cb', Lb, eb, -, -, hAb, hLb⟩ := hb.out.open_ (fun e => by have := hM.out; rw [e] at this; simp at this; omega)
          injection eb with eb1 _ eb2
          subst eb1 eb2
          have hcy : wr.cell? ⟨gb, ob + k, none⟩ = some (.int .u32 (y : Int)) := (hB.cell (by have := hAb.lt; rw [hg.out] at this; exact this)).trans (hAb.cell (hLb _ _ hy))
          have hst := hI.out.step hx (Or.inl hy) hxs hys
          obtain ⟨d, hd⟩ : ∃ d, d = (c + x + y) % 4294967296 := ⟨_, rfl⟩
          obtain ⟨e, he⟩ : ∃ e, e = (c + x + y) / 4294967296 := ⟨_, rfl⟩
          rw [← hd, ← he] at hst
          have hdi : ((c : Int) + (x : Int) + (y : Int)) % 4294967296 = (d : Int) := by omega
          have hei : ((c : Int) + (x : Int) + (y : Int)) / 4294967296 = (e : Int) := by omega
          replace hst := Lib.hid hst
          clear hx hy hz hd he
          go_wp2
          go_roundw
          case rel => exact ⟨k + 1, e, _, by go_num, rfl, by omega, hst.out, hA.set_ _ _, hB.setCell (Nat.le_refl _) _⟩
          case measure => simp [intOf]; omega
        · have h1I : ¬ (k : Int) < (M : Int) := by omega
          have hst := hI.out.step (y := 0) hx (Or.inr ⟨by rw [← hM.out]; omega, rfl⟩) hxs (by omega)
          simp only [Nat.add_zero] at hst
          obtain ⟨d, hd⟩ : ∃ d, d = (c + x) % 4294967296 := ⟨_, rfl⟩
          obtain ⟨e, he⟩ : ∃ e, e = (c + x) / 4294967296 := ⟨_, rfl⟩
          rw [← hd, ← he] at hst
          have hdi : ((c : Int) + (x : Int)) % 4294967296 = (d : Int) := by omega
          have hei : ((c : Int) + (x : Int)) / 4294967296 = (e : Int) := by omega
          replace hst := Lib.hid hst
          clear hx hz hd he
          go_wp2
          go_roundw
          case rel => exact ⟨k + 1, e, _, by go_num, rfl, by omega, hst.out, hA.set_ _ _, hB.setCell (Nat.le_refl _) _⟩
          case measure => simp [intOf]; omega
      · obtain rfl : k = N := by omega
        obtain ⟨z, hz⟩ : ∃ z, O[k]? = some z := ⟨_, List.getElem?_eq_getElem (by rw [hOl.out]; omega)⟩
        have hcz : wr.cell? ⟨g, k, none⟩ = some (.int .u32 (z : Int)) := hA.cell hz
        have hfz : wr.frozen? ⟨g, k, none⟩ = false := hA.frozen _
        have hdone := (by have h := hI.out; rw [hN.out] at h; exact h : PlInv (dg a) (dg b) (dg a).length c O).done (by rw [← hN.out, ← hM.out]; exact hMN)
        rw [← hN.out] at hdone
        obtain ⟨d1, d2, d3⟩ := hdone
        rw [val_dg, val_dg] at d3
        have hci : (c : Int) % 4294967296 = (c : Int) := by omega
        have hA2 := hA.set_ k c
        have hB2 : Below g w (wr.setCell ⟨g, k, none⟩ (.int .u32 (c : Int))) := hB.setCell (Nat.le_refl _) _
        have hR : Rd .u32 143 (wr.setCell ⟨g, k, none⟩ (.int .u32 (c : Int))) (.slice (some ⟨g, 0, none⟩) (k + 1) (k + 1)) (O.set k c) := by
          have := Rd.whole hA2 (by rw [d2]; unfold maxLen; omega)
          rwa [d2] at this
        replace d3 := Lib.hid d3
        replace hB2 := Lib.hid hB2
        replace hR := Lib.hid hR
        clear hz hA2 d2
        go_wp2_with fail
        refine (cut_any _ (O.set k c) _ hR.out d1).mono ?_
        rintro e w1 ⟨v, rfl, hv, rfl⟩
        replace hv := Lib.hid hv
        go_wp2
        go_ret
        refine ⟨v, rfl, by rw [← d3.out]; exact hv.out, ?_⟩
        rw [hg.out]
        exact hB2.out

set_option maxRecDepth 100000 in
set_option maxHeartbeats 1000000 in
/-- digits.less -/
theorem less_any (va vb : Value) (a b : Nat) (w : World) (ha : Dg w va a) (hb : Dg w vb b) (hla : (dg a).length ≤ 1073741824) (hba : b ≤ a) :
    Calls Try.prog 105 #[va, vb] w (RetDg (a - b) w) := by
  obtain ⟨Aa, ca, rfl, ha1, ha2, ha3⟩ := id ha
  replace ha := Lib.hid ha
  replace ha3 := Lib.hid ha3
  obtain ⟨Ab, cb, rfl, hb1, hb2, hb3⟩ := id hb
  replace hb := Lib.hid hb
  replace hb3 := Lib.hid hb3
  obtain ⟨N, hN⟩ : ∃ N, N = (dg a).length := ⟨_, rfl⟩
  obtain ⟨M, hM⟩ : ∃ M, M = (dg b).length := ⟨_, rfl⟩
  have hmk := make_u32 N (by omega)
  have hMN : M ≤ N := by rw [hN, hM]; exact dg_len_mono hba
  rw [← hN] at hla
  rw [← hN, ← hM]
  replace hN := Lib.hid hN
  replace hM := Lib.hid hM
  replace hba := Lib.hid hba
  go_enter Try.func105, Try.ntmps105
  go_wp2
  have hA0 := Arr.new w .u32 143 (List.replicate N 0)
  have hB0 : Below w.heap.size w (w.alloc (.cells (ivs .u32 (List.replicate N 0)).toArray 143)) := (Below.refl _ _).alloc (Nat.le_refl _) _
  generalize hw0 : w.alloc (.cells (ivs .u32 (List.replicate N 0)).toArray 143) = w0 at hA0 hB0 ⊢
  generalize hg : w.heap.size = g at *
  replace hg := Lib.hid hg
  clear hw0 hmk
  go_loopw [6, 14] (fun cc i wr => ∃ (k c : Nat) (O : List Nat), i = .int .i64 (k : Int) ∧ cc = .int .u64 (c : Int) ∧ k ≤ N ∧ LsInv (dg a) (dg b) k c O ∧ Arr wr g .u32 143 O ∧ Below g w wr) (fun _ i _ => N - (intOf i).toNat)
  case atStart => exact ⟨0, 0, List.replicate N 0, rfl, rfl, Nat.zero_le _, by rw [hN.out]; exact LsInv.start _ _, hA0, hB0⟩
  case round =>
    obtain ⟨k, c, O, rfl, rfl, hk, hI, hA, hB⟩ := hrel
    have hc1 := hI.carry
    have hOl : O.length = N := by rw [hI.len, ← hN.out]
    replace hOl := Lib.hid hOl
    replace hI := Lib.hid hI
    by_cases h0 : k < N
    · have h0I : (k : Int) < (N : Int) := by omega
      obtain ⟨x, hx⟩ : ∃ x, (dg a)[k]? = some x := ⟨_, List.getElem?_eq_getElem (by rw [← hN.out]; omega)⟩
      have hxs : x < 4294967296 := getElem?_dg hx
      obtain ⟨ga, oa, ca', La, ea, -, -, hAa, hLa⟩ := ha.out.open_ (fun e => by have := hN.out; rw [e] at this; simp at this; omega)
      injection ea with ea1 _ ea2
      subst ea1 ea2
      have hcx : wr.cell? ⟨ga, oa + k, none⟩ = some (.int .u32 (x : Int)) := (hB.cell (by have := hAa.lt; rw [hg.out] at this; exact this)).trans (hAa.cell (hLa _ _ hx))
      obtain ⟨z, hz⟩ : ∃ z, O[k]? = some z := ⟨_, List.getElem?_eq_getElem (by rw [hOl.out]; omega)⟩
      have hcz : wr.cell? ⟨g, k, none⟩ = some (.int .u32 (z : Int)) := hA.cell hz
      have hfz : wr.frozen? ⟨g, k, none⟩ = false := hA.frozen _
      obtain ⟨y, hyy, hys, hyr⟩ : ∃ y, ((dg b)[k]? = some y ∨ ((dg b).length ≤ k ∧ y = 0)) ∧ y < 4294967296 ∧ (k < M → (dg b)[k]? = some y) := by
        by_cases h1 : k < M
        · obtain ⟨y, hy⟩ : ∃ y, (dg b)[k]? = some y := ⟨_, List.getElem?_eq_getElem (by rw [← hM.out]; omega)⟩
          exact ⟨y, Or.inl hy, getElem?_dg hy, fun _ => hy⟩
        · exact ⟨0, Or.inr ⟨by rw [← hM.out]; omega, rfl⟩, by omega, fun h => absurd h h1⟩
      have hy0 : ¬ k < M → y = 0 := fun h => by
        rcases hyy with h1 | ⟨-, h1⟩
        · exact absurd (by have := lt_of_getElem? h1; rw [hM.out]; exact this) h
        · exact h1
      -- the difference, wrapped
      obtain ⟨X, hX⟩ : ∃ X, X = if c ≤ x then x - c else x + 18446744073709551616 - c := ⟨_, rfl⟩
      have hXs : X < 18446744073709551616 := by rw [hX]; split <;> omega
      have hXi : IntKind.u64.wrap ((x : Int) - (c : Int)) = (X : Int) := by rw [IntKind.wrap_u64, hX]; split <;> omega
      obtain ⟨S, hS⟩ : ∃ S, S = if c + y ≤ x then x - c - y else x + 18446744073709551616 - c - y := ⟨_, rfl⟩
      have hSs : S < 18446744073709551616 := by rw [hS]; split <;> omega
      have hSi : IntKind.u64.wrap ((X : Int) - (y : Int)) = (S : Int) := by rw [IntKind.wrap_u64, hS, hX]; split <;> split <;> omega
      obtain ⟨d, hd⟩ : ∃ d, d = S % 4294967296 := ⟨_, rfl⟩
      obtain ⟨e, he⟩ : ∃ e, e = S / 9223372036854775808 := ⟨_, rfl⟩
      have hdi : (S : Int) % 4294967296 = (d : Int) := by omega
      have hei : (S : Int) / 9223372036854775808 = (e : Int) := by omega
      have hst := hI.out.step (d := d) (c' := e) hx hyy (by omega) (by omega) (by rw [hd, he, hS]; split <;> omega)
      replace hst := Lib.hid hst
      by_cases h1 : k < M
      · have h1I : (k : Int) < (M : Int) := by omega
        have hy := hyr h1
        obtain ⟨gb, ob, cb', Lb, eb, -, -, hAb, hLb⟩ := hb.out.open_ (fun e => by have := hM.out; rw [e] at this; simp at this; omega)
        injection eb with eb1 _ eb2
        subst eb1 eb2
        have hcy : wr.cell? ⟨gb, ob + k, none⟩ = some (.int .u32 (y : Int)) := (hB.cell (by have := hAb.lt; rw [hg.out] at this; exact this)).trans (hAb.cell (hLb _ _ hy))
        clear hx hyy hyr hy0 hy hz hd he hX hS
        go_wp2
        go_roundw
        case rel => exact ⟨k + 1, e, _, by go_num, rfl, by omega, hst.out, hA.set_ _ _, hB.setCell (Nat.le_refl _) _⟩
        case measure => simp [intOf]; omega
      · have h1I : ¬ (k : Int) < (M : Int) := by omega
        have hy := hy0 h1
        subst hy
        have hXS : X = S := by rw [hX, hS]; simp
        subst hXS
        clear hx hyy hyr hy0 hz hd he hX hS hSi
        go_wp2
        go_roundw
        case rel => exact ⟨k + 1, e, _, by go_num, rfl, by omega, hst.out, hA.set_ _ _, hB.setCell (Nat.le_refl _) _⟩
        case measure => simp [intOf]; omega
    · obtain rfl : k = N := by omega
      have hdone : val O = a - b := by
        have h := hI.out
        rw [hN.out] at h
        have := h.done (by rw [← hN.out, ← hM.out]; exact hMN) (by rw [val_dg, val_dg]; exact hba.out)
        rwa [val_dg, val_dg] at this
      have hR : Rd .u32 143 wr (.slice (some ⟨g, 0, none⟩) k k) O := by
        have := Rd.whole hA (by rw [hOl.out]; unfold maxLen; omega)
        rwa [hOl.out] at this
      have hsm := hI.out.sm
      replace hdone := Lib.hid hdone
      replace hR := Lib.hid hR
      go_wp2_with fail
      refine (cut_any _ O _ hR.out hsm).mono ?_
      rintro e w1 ⟨v, rfl, hv, rfl⟩
      replace hv := Lib.hid hv
      go_wp2
      go_ret
      refine ⟨v, rfl, by rw [← hdone.out]; exact hv.out, ?_⟩
      rw [hg.out]
      exact hB

set_option maxRecDepth 100000 in
set_option maxHeartbeats 1000000 in
/-- digits.times -/
theorem times_wide (va vb : Value) (a b : Nat) (w : World) (ha : Dg w va a) (hb : Dg w vb b) (hla : (dg a).length ≤ 1073741824) (hlb : (dg b).length ≤ 1073741824) :
    Calls Try.prog 101 #[va, vb] w (RetDg (a * b) w) := by
  obtain ⟨Aa, ca, rfl, ha1, ha2, ha3⟩ := id ha
  replace ha := Lib.hid ha
  replace ha3 := Lib.hid ha3
  obtain ⟨Ab, cb, rfl, hb1, hb2, hb3⟩ := id hb
  replace hb := Lib.hid hb
  replace hb3 := Lib.hid hb3
  obtain ⟨N, hN⟩ : ∃ N, N = (dg a).length := ⟨_, rfl⟩
  obtain ⟨M, hM⟩ : ∃ M, M = (dg b).length := ⟨_, rfl⟩
  have hmk := make_u32 (N + M) (by omega)
  have hmk' : ∀ w : World, (Instr.makeSlice 118 (.int .i64 ((N : Int) + (M : Int))) (.int .i64 ((N : Int) + (M : Int)))).run Try.prog w = .ok (.slice (some ⟨w.heap.size, 0, none⟩) (N + M) (N + M)) (w.alloc (.cells (ivs .u32 (List.replicate (N + M) 0)).toArray 143)) := fun w => hmk w
  rw [← hN] at hla ⊢
  rw [← hM] at hlb ⊢
  replace hN := Lib.hid hN
  replace hM := Lib.hid hM
  clear hmk
  go_enter Try.func101, Try.ntmps101
  go_wp2
  have hA0 := Arr.new w .u32 143 (List.replicate (N + M) 0)
  have hB0 : Below w.heap.size w (w.alloc (.cells (ivs .u32 (List.replicate (N + M) 0)).toArray 143)) := (Below.refl _ _).alloc (Nat.le_refl _) _
  generalize hw0 : w.alloc (.cells (ivs .u32 (List.replicate (N + M) 0)).toArray 143) = w0 at hA0 hB0 ⊢
  generalize hg : w.heap.size = g at *
  replace hg := Lib.hid hg
  clear hw0 hmk'
  go_loopw [19] (fun i wr => ∃ (k : Nat) (O : List Nat), i = .int .i64 (k : Int) ∧ k ≤ N ∧ TmInv (dg a) (dg b) k O ∧ Arr wr g .u32 143 O ∧ Below g w wr) (fun i _ => N - (intOf i).toNat)
  case atStart => exact ⟨0, List.replicate (N + M) 0, rfl, Nat.zero_le _, by rw [hN.out, hM.out]; exact TmInv.start _ _, hA0, hB0⟩
  case round =>
    obtain ⟨i, O0, rfl, hi, hI, hA, hB⟩ := hrel
    have hOl : O0.length = N + M := by rw [hI.len, ← hN.out, ← hM.out]
    replace hOl := Lib.hid hOl
    replace hI := Lib.hid hI
    by_cases h0 : i < N
    · have h0I : (i : Int) < (N : Int) := by omega
      obtain ⟨x, hx⟩ : ∃ x, (dg a)[i]? = some x := ⟨_, List.getElem?_eq_getElem (by rw [← hN.out]; omega)⟩
      have hxs : x < 4294967296 := getElem?_dg hx
      obtain ⟨ga, oa, ca', La, ea, -, -, hAa, hLa⟩ := ha.out.open_ (fun e => by have := hN.out; rw [e] at this; simp at this; omega)
      injection ea with ea1 _ ea2
      subst ea1 ea2
      have hcx : wr.cell? ⟨ga, oa + i, none⟩ = some (.int .u32 (x : Int)) := (hB.cell (by have := hAa.lt; rw [hg.out] at this; exact this)).trans (hAa.cell (hLa _ _ hx))
      replace hx := Lib.hid hx
      replace hAa := Lib.hid hAa
      replace hLa := Lib.hid hLa
      replace hA := Lib.hid hA
      replace hB := Lib.hid hB
      obtain ⟨wo, rfl⟩ : ∃ wo : World, wo = wr := ⟨_, rfl⟩
      go_wp2_with fail
      clear hcx
      go_loopw [8, 26] (fun cc kk wq => ∃ (k c : Nat) (O : List Nat), kk = .int .i64 (k : Int) ∧ cc = .int .u64 (c : Int) ∧ k ≤ M ∧ TrInv O0 (dg b) i x k c O ∧ Arr wq g .u32 143 O ∧ Below g w wq) (fun _ kk _ => M - (intOf kk).toNat)
      case atStart => exact ⟨0, 0, O0, rfl, rfl, Nat.zero_le _, TrInv.start hI.out.sm, hA.out, hB.out⟩
      case round =>
        obtain ⟨k, c, O, rfl, rfl, hk, hR, hA, hB⟩ := hrel
        have hc1 := hR.carry
        have hOl2 : O.length = N + M := by rw [hR.len]; exact hOl.out
        replace hOl2 := Lib.hid hOl2
        replace hR := Lib.hid hR
        by_cases h1 : k < M
        · have h1I : (k : Int) < (M : Int) := by omega
          obtain ⟨y, hy⟩ : ∃ y, (dg b)[k]? = some y := ⟨_, List.getElem?_eq_getElem (by rw [← hM.out]; omega)⟩
          have hys : y < 4294967296 := getElem?_dg hy
          obtain ⟨gb, ob, cb', Lb, eb, -, -, hAb, hLb⟩ := hb.out.open_ (fun e => by have := hM.out; rw [e] at this; simp at this; omega)
          injection eb with eb1 _ eb2
          subst eb1 eb2
          have hcy : wr.cell? ⟨gb, ob + k, none⟩ = some (.int .u32 (y : Int)) := (hB.cell (by have := hAb.lt; rw [hg.out] at this; exact this)).trans (hAb.cell (hLb _ _ hy))
          obtain ⟨z, hz⟩ : ∃ z, O[i + k]? = some z := ⟨_, List.getElem?_eq_getElem (by rw [hOl2.out]; omega)⟩
          have hzs : z < 4294967296 := hR.out.sm.get hz
          have hcz : wr.cell? ⟨g, i + k, none⟩ = some (.int .u32 (z : Int)) := hA.cell hz
          have hfz : wr.frozen? ⟨g, i + k, none⟩ = false := hA.frozen _
          have hst := hR.out.step hy hz hxs hys
          obtain ⟨b1, b2, b3⟩ := mul_bound hc1 hxs hys hzs
          obtain ⟨P, hP⟩ : ∃ P, P = x * y := ⟨_, rfl⟩
          have hPi : (x : Int) * (y : Int) = (P : Int) := by rw [hP]; push_cast; rfl
          rw [← hP] at hst b1 b2 b3
          obtain ⟨d, hd⟩ : ∃ d, d = (c + (P + z)) % 4294967296 := ⟨_, rfl⟩
          obtain ⟨e, he⟩ : ∃ e, e = (c + (P + z)) / 4294967296 := ⟨_, rfl⟩
          rw [← hd, ← he] at hst
          have hdi : ((c : Int) + ((P : Int) + (z : Int))) % 4294967296 = (d : Int) := by omega
          have hei : ((c : Int) + ((P : Int) + (z : Int))) / 4294967296 = (e : Int) := by omega
          replace hst := Lib.hid hst
          clear hy hz hP hd he
          go_wp2
          go_roundw
          case rel => exact ⟨k + 1, e, _, by go_num, rfl, by omega, hst.out, hA.set_ _ _, hB.setCell (Nat.le_refl _) _⟩
          case measure => simp [intOf]; omega
        · obtain rfl : k = M := by omega
          obtain ⟨z, hz⟩ : ∃ z, O[i + k]? = some z := ⟨_, List.getElem?_eq_getElem (by rw [hOl2.out]; omega)⟩
          have hcz : wr.cell? ⟨g, i + k, none⟩ = some (.int .u32 (z : Int)) := hA.cell hz
          have hfz : wr.frozen? ⟨g, i + k, none⟩ = false := hA.frozen _
          have hst : TmInv (dg a) (dg b) (i + 1) (O.set (i + k) c) := by
            have h := hR.out
            rw [hM.out] at h ⊢
            exact hI.out.step hx.out h
          have hci : (c : Int) % 4294967296 = (c : Int) := by omega
          replace hst := Lib.hid hst
          clear hz
          go_wp2
          go_roundw
          case rel => exact ⟨i + 1, _, by go_num, by omega, hst.out, hA.set_ _ _, hB.setCell (Nat.le_refl _) _⟩
          case measure => simp [intOf]; omega
    · obtain rfl : i = N := by omega
      have hdone : val O0 = a * b := by
        have h := hI.out.value
        rw [hN.out, List.take_length, val_dg, val_dg] at h
        exact h
      have hR : Rd .u32 143 wr (.slice (some ⟨g, 0, none⟩) (i + M) (i + M)) O0 := by
        have := Rd.whole hA (by rw [hOl.out]; unfold maxLen; omega)
        rwa [hOl.out] at this
      have hsm := hI.out.sm
      replace hdone := Lib.hid hdone
      replace hR := Lib.hid hR
      go_wp2_with fail
      refine (cut_any _ O0 _ hR.out hsm).mono ?_
      rintro e w1 ⟨v, rfl, hv, rfl⟩
      replace hv := Lib.hid hv
      go_wp2
      go_ret
      refine ⟨v, rfl, by rw [← hdone.out]; exact hv.out, ?_⟩
      rw [hg.out]
      exact hB
end Go.Proofs.Ytciafmnideihjaa
