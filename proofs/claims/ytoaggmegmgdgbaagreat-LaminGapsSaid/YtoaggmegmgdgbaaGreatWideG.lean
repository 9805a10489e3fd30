import Derived.Test.YtoaggmegmgdgbaaGreatBig
import Derived.Test.YtoaggmegmgdgbaaGreatTail
import Derived.StillTail
import Derived.OrdersHeld
import Derived.Lib.QuietBelow
import Derived.Deep.CutBlock
namespace Go.Proofs.YtoaggmegmgdgbaaGreat
open Go.RowKit
structure PlInv (la lb : List Nat) (k c : Nat) (O : List Nat) : Prop where
  len : O.length = la.length + 1
  sm : Sm O
  value : val (O.take k) + 4294967296 ^ k * c = val (la.take k) + val (lb.take k)
  carry : c ≤ 1
theorem PlInv.start (la lb : List Nat) : PlInv la lb 0 0 (List.replicate (la.length + 1) 0) := ⟨by simp, sm_replicate _, by simp [val], by omega⟩
theorem val_take_set {O : List Nat} {k d : Nat} (hk : k < O.length) : val ((O.set k d).take (k + 1)) = val (O.take k) + 4294967296 ^ k * d := by
  have e1 := val_take_succ (l := O.set k d) (j := k) (x := d) (by rw [List.getElem?_set_self hk])
  rw [List.take_set_of_le (Nat.le_refl _)] at e1
  exact e1
theorem split_mul (B S T : Nat) : B * (S % 4294967296) + B * 4294967296 * (S / 4294967296) + T = B * S + T := by
  rw [Nat.mul_assoc, ← Nat.mul_add, Nat.mod_add_div]
theorem PlInv.step {la lb : List Nat} {k c x y : Nat} {O : List Nat} (h : PlInv la lb k c O) (hx : la[k]? = some x) (hy : lb[k]? = some y ∨ (lb.length ≤ k ∧ y = 0)) (hxs : x < 4294967296) (hys : y < 4294967296) :
    PlInv la lb (k + 1) ((c + x + y) / 4294967296) (O.set k ((c + x + y) % 4294967296)) := by
  have hk := lt_of_getElem? hx
  have hc := h.carry
  have ev := h.value
  have e2 := val_take_succ hx
  have e3 : val (lb.take (k + 1)) = val (lb.take k) + 4294967296 ^ k * y := by
    rcases hy with hy | ⟨hy, rfl⟩
    · exact val_take_succ hy
    · rw [List.take_of_length_le (by omega), List.take_of_length_le hy]; simp
  refine ⟨by simp [h.len], h.sm.set_ (Nat.mod_lt _ (by omega)), ?_, by omega⟩
  rw [val_take_set (by rw [h.len]; omega), e2, e3, Nat.pow_succ]
  generalize 4294967296 ^ k = B at *
  have e4 := split_mul B (c + x + y) (val (O.take k))
  have e5 : B * (c + x + y) = B * c + B * x + B * y := by rw [Nat.mul_add, Nat.mul_add]
  omega
theorem PlInv.done {la lb : List Nat} {c : Nat} {O : List Nat} (h : PlInv la lb la.length c O) (hl : lb.length ≤ la.length) : Sm (O.set la.length c) ∧ (O.set la.length c).length = la.length + 1 ∧ val (O.set la.length c) = val la + val lb := by
  refine ⟨h.sm.set_ (by have := h.carry; omega), by simp [h.len], ?_⟩
  have e1 := val_take_set (O := O) (k := la.length) (d := c) (by rw [h.len]; omega)
  rw [List.take_of_length_le (by simp [h.len])] at e1
  rw [e1, h.value, List.take_length, List.take_of_length_le hl]
structure LsInv (la lb : List Nat) (k c : Nat) (O : List Nat) : Prop where
  len : O.length = la.length
  sm : Sm O
  value : val (O.take k) + val (lb.take k) = val (la.take k) + 4294967296 ^ k * c
  carry : c ≤ 1
theorem LsInv.start (la lb : List Nat) : LsInv la lb 0 0 (List.replicate la.length 0) := ⟨by simp, sm_replicate _, by simp [val], by omega⟩
theorem LsInv.step {la lb : List Nat} {k c x y d c' : Nat} {O : List Nat} (h : LsInv la lb k c O) (hx : la[k]? = some x) (hy : lb[k]? = some y ∨ (lb.length ≤ k ∧ y = 0)) (hd : d < 4294967296) (hc' : c' ≤ 1) (he : d + c + y = x + 4294967296 * c') :
    LsInv la lb (k + 1) c' (O.set k d) := by
  have hk := lt_of_getElem? hx
  have ev := h.value
  have e2 := val_take_succ hx
  have e3 : val (lb.take (k + 1)) = val (lb.take k) + 4294967296 ^ k * y := by
    rcases hy with hy | ⟨hy, rfl⟩
    · exact val_take_succ hy
    · rw [List.take_of_length_le (by omega), List.take_of_length_le hy]; simp
  refine ⟨by simp [h.len], h.sm.set_ hd, ?_, hc'⟩
  rw [val_take_set (by rw [h.len]; omega), e2, e3, Nat.pow_succ]
  generalize 4294967296 ^ k = B at *
  have e4 : B * (d + c + y) = B * (x + 4294967296 * c') := by rw [he]
  rw [Nat.mul_add, Nat.mul_add, Nat.mul_add, ← Nat.mul_assoc] at e4
  omega
theorem LsInv.done {la lb : List Nat} {c : Nat} {O : List Nat} (h : LsInv la lb la.length c O) (hl : lb.length ≤ la.length) (hle : val lb ≤ val la) : val O = val la - val lb := by
  have ev := h.value
  rw [List.take_length, List.take_of_length_le hl, List.take_of_length_le (by rw [h.len]; exact Nat.le_refl _)] at ev
  have hlt := val_lt h.sm
  rw [h.len] at hlt
  have hc := h.carry
  rcases Nat.eq_zero_or_pos c with h0 | h0
  · rw [h0] at ev; omega
  · rw [show c = 1 by omega, Nat.mul_one] at ev
    omega
structure TmInv (la lb : List Nat) (i : Nat) (O : List Nat) : Prop where
  len : O.length = la.length + lb.length
  sm : Sm O
  value : val O = val (la.take i) * val lb
  zero : ∀ j, i + lb.length ≤ j → j < O.length → O[j]? = some 0
theorem TmInv.start (la lb : List Nat) : TmInv la lb 0 (List.replicate (la.length + lb.length) 0) :=
  ⟨by simp, sm_replicate _, by rw [val_replicate]; simp [val], fun j _ h => by rw [List.getElem?_replicate]; simp at h; simp [h]⟩
structure TrInv (O0 lb : List Nat) (i x k c : Nat) (O : List Nat) : Prop where
  len : O.length = O0.length
  sm : Sm O
  value : val O + 4294967296 ^ (i + k) * c = val O0 + 4294967296 ^ i * (x * val (lb.take k))
  zero : ∀ j, i + lb.length ≤ j → O[j]? = O0[j]?
  carry : c < 4294967296
theorem TrInv.start {O0 lb : List Nat} {i x : Nat} (h : Sm O0) : TrInv O0 lb i x 0 0 O0 := ⟨rfl, h, by simp [val], fun _ _ => rfl, by omega⟩
theorem mul_bound {c x y z : Nat} (hc : c < 4294967296) (hx : x < 4294967296) (hy : y < 4294967296) (hz : z < 4294967296) : x * y ≤ 18446744065119617025 ∧ x * y + z ≤ 18446744069414584320 ∧ c + (x * y + z) ≤ 18446744073709551615 := by
  have := Nat.mul_le_mul (show x ≤ 4294967295 by omega) (show y ≤ 4294967295 by omega)
  omega
theorem TrInv.step {O0 lb : List Nat} {i x k c y z : Nat} {O : List Nat} (h : TrInv O0 lb i x k c O) (hy : lb[k]? = some y) (hz : O[i + k]? = some z) (hx : x < 4294967296) (hys : y < 4294967296) :
    TrInv O0 lb i x (k + 1) ((c + (x * y + z)) / 4294967296) (O.set (i + k) ((c + (x * y + z)) % 4294967296)) := by
  have hk := lt_of_getElem? hy
  have hzs : z < 4294967296 := h.sm.get hz
  have hb := (mul_bound h.carry hx hys hzs).2.2
  refine ⟨by simp [h.len], h.sm.set_ (Nat.mod_lt _ (by omega)), ?_, fun j hj => ?_, by omega⟩
  · have e1 := val_set ((c + (x * y + z)) % 4294967296) hz
    have e2 := val_take_succ hy
    have ev := h.value
    rw [e2, ← Nat.add_assoc i k 1, Nat.pow_succ]
    rw [Nat.mul_add x, Nat.mul_add (4294967296 ^ i), Nat.mul_left_comm x (4294967296 ^ k) y, ← Nat.mul_assoc (4294967296 ^ i) (4294967296 ^ k), ← Nat.pow_add]
    generalize 4294967296 ^ (i + k) = B at *
    have e4 := split_mul B (c + (x * y + z)) 0
    have e5 : B * (c + (x * y + z)) = B * c + B * (x * y) + B * z := by rw [Nat.mul_add, Nat.mul_add]; omega
    omega
  · rw [List.getElem?_set_ne (by omega)]
    exact h.zero j hj
theorem TmInv.step {la lb : List Nat} {i x c : Nat} {O0 O : List Nat} (h : TmInv la lb i O0) (hx : la[i]? = some x) (hr : TrInv O0 lb i x lb.length c O) : TmInv la lb (i + 1) (O.set (i + lb.length) c) := by
  have hi := lt_of_getElem? hx
  have hz : O[i + lb.length]? = some 0 := by rw [hr.zero _ (Nat.le_refl _)]; exact h.zero _ (Nat.le_refl _) (by rw [h.len]; omega)
  refine ⟨by simp [hr.len, h.len], hr.sm.set_ hr.carry, ?_, fun j hj hlt => ?_⟩
  · have e1 := val_set c hz
    have e2 := val_take_succ hx
    have ev := hr.value
    rw [List.take_length] at ev
    rw [e2, Nat.add_mul, ← h.value, Nat.mul_assoc]
    omega
  · rw [List.getElem?_set_ne (by omega), hr.zero _ (by omega)]
    exact h.zero j (by omega) (by simp [hr.len] at hlt; exact hlt)
set_option maxRecDepth 100000 in
set_option maxHeartbeats 1000000 in
theorem plus_any (va vb : Value) (a b : Nat) (w : World) (ha : Dg w va a) (hb : Dg w vb b) (hla : (dg a).length ≤ 1073741824) (hlb : (dg b).length ≤ 1073741824) :
    Calls Tryz.prog 168 #[va, vb] w (RetDg (a + b) w) := by
  obtain ⟨Aa, ca, rfl, ha1, ha2, ha3⟩ := id ha
  replace ha := Lib.hid ha
  replace ha3 := Lib.hid ha3
  obtain ⟨Ab, cb, rfl, hb1, hb2, hb3⟩ := id hb
  replace hb := Lib.hid hb
  replace hb3 := Lib.hid hb3
  by_cases hle : (dg a).length < (dg b).length
  · obtain ⟨N, hN⟩ : ∃ N, N = (dg b).length := ⟨_, rfl⟩
    obtain ⟨M, hM⟩ : ∃ M, M = (dg a).length := ⟨_, rfl⟩
    have hmk := make_u32 (N + 1) (by omega)
    have hmk' : ∀ w : World, (Instr.makeSlice 149 (.int .i64 ((N : Int) + 1)) (.int .i64 ((N : Int) + 1))).run Tryz.prog w = .ok (.slice (some ⟨w.heap.size, 0, none⟩) (N + 1) (N + 1)) (w.alloc (.cells (ivs .u32 (List.replicate (N + 1) 0)).toArray 243)) := fun w => hmk w
    have hMN : M ≤ N := by omega
    have hNs : N ≤ 1073741824 := by omega
    have hltI : (M : Int) < (N : Int) := by omega
    rw [← hN, ← hM]
    have hlt := hltI
    replace hN := Lib.hid hN
    replace hM := Lib.hid hM
    clear hmk
    go_enter Tryz.func168, Tryz.ntmps168
    go_wp2
    have hA0 := Arr.new w .u32 243 (List.replicate (N + 1) 0)
    have hB0 : Below w.heap.size w (w.alloc (.cells (ivs .u32 (List.replicate (N + 1) 0)).toArray 243)) := (Below.refl _ _).alloc (Nat.le_refl _) _
    generalize hw0 : w.alloc (.cells (ivs .u32 (List.replicate (N + 1) 0)).toArray 243) = w0 at hA0 hB0 ⊢
    generalize hg : w.heap.size = g at *
    replace hg := Lib.hid hg
    clear hw0 hmk' hlt hle hltI
    go_loopw [6, 21] (fun cc i wr => ∃ (k c : Nat) (O : List Nat), i = .int .i64 (k : Int) ∧ cc = .int .u64 (c : Int) ∧ k ≤ N ∧ PlInv (dg b) (dg a) k c O ∧ Arr wr g .u32 243 O ∧ Below g w wr) (fun _ i _ => N - (intOf i).toNat)
    case atStart => exact ⟨0, 0, List.replicate (N + 1) 0, rfl, rfl, Nat.zero_le _, by rw [hN.out]; exact PlInv.start _ _, hA0, hB0⟩
    case round =>
      obtain ⟨k, c, O, rfl, rfl, hk, hI, hA, hB⟩ := hrel
      have hc1 := hI.carry
      have hOl : O.length = N + 1 := by rw [hI.len, ← hN.out]
      replace hOl := Lib.hid hOl
      replace hI := Lib.hid hI
      by_cases h0 : k < N
      · have h0I : (k : Int) < (N : Int) := by omega
        obtain ⟨x, hx⟩ : ∃ x, (dg b)[k]? = some x := ⟨_, List.getElem?_eq_getElem (by rw [← hN.out]; omega)⟩
        have hxs : x < 4294967296 := getElem?_dg hx
        obtain ⟨ga, oa, ca', La, ea, -, -, hAa, hLa⟩ := hb.out.open_ (fun e => by have := hN.out; rw [e] at this; simp at this; omega)
        injection ea with ea1 _ ea2
        subst ea1 ea2
        have hcx : wr.cell? ⟨ga, oa + k, none⟩ = some (.int .u32 (x : Int)) := (hB.cell (by have := hAa.lt; rw [hg.out] at this; exact this)).trans (hAa.cell (hLa _ _ hx))
        obtain ⟨z, hz⟩ : ∃ z, O[k]? = some z := ⟨_, List.getElem?_eq_getElem (by rw [hOl.out]; omega)⟩
        have hcz : wr.cell? ⟨g, k, none⟩ = some (.int .u32 (z : Int)) := hA.cell hz
        have hfz : wr.frozen? ⟨g, k, none⟩ = false := hA.frozen _
        by_cases h1 : k < M
        · have h1I : (k : Int) < (M : Int) := by omega
          obtain ⟨y, hy⟩ : ∃ y, (dg a)[k]? = some y := ⟨_, List.getElem?_eq_getElem (by rw [← hM.out]; omega)⟩
          have hys : y < 4294967296 := getElem?_dg hy
          obtain ⟨gb, ob, cb', Lb, eb, -, -, hAb, hLb⟩ := ha.out.open_ (fun e => by have := hM.out; rw [e] at this; simp at this; omega)
          injection eb with eb1 _ eb2
          subst eb1 eb2
          have hcy : wr.cell? ⟨gb, ob + k, none⟩ = some (.int .u32 (y : Int)) := (hB.cell (by have := hAb.lt; rw [hg.out] at this; exact this)).trans (hAb.cell (hLb _ _ hy))
          have hst := hI.out.step hx (Or.inl hy) hxs hys
          obtain ⟨d, hd⟩ : ∃ d, d = (c + x + y) % 4294967296 := ⟨_, rfl⟩
          obtain ⟨e, he⟩ : ∃ e, e = (c + x + y) / 4294967296 := ⟨_, rfl⟩
          rw [← hd, ← he] at hst
          have hdi : ((c : Int) + (x : Int) + (y : Int)) % 4294967296 = (d : Int) := by omega
          have hei : ((c : Int) + (x : Int) + (y : Int)) / 4294967296 = (e : Int) := by omega
          replace hst := Lib.hid hst
          clear hx hy hz hd he
          go_wp2
          go_roundw
          case rel => exact ⟨k + 1, e, _, by go_num, rfl, by omega, hst.out, hA.set_ _ _, hB.setCell (Nat.le_refl _) _⟩
          case measure => simp [intOf]; omega
        · have h1I : ¬ (k : Int) < (M : Int) := by omega
          have hst := hI.out.step (y := 0) hx (Or.inr ⟨by rw [← hM.out]; omega, rfl⟩) hxs (by omega)
          simp only [Nat.add_zero] at hst
          obtain ⟨d, hd⟩ : ∃ d, d = (c + x) % 4294967296 := ⟨_, rfl⟩
          obtain ⟨e, he⟩ : ∃ e, e = (c + x) / 4294967296 := ⟨_, rfl⟩
          rw [← hd, ← he] at hst
          have hdi : ((c : Int) + (x : Int)) % 4294967296 = (d : Int) := by omega
          have hei : ((c : Int) + (x : Int)) / 4294967296 = (e : Int) := by omega
          replace hst := Lib.hid hst
          clear hx hz hd he
          go_wp2
          go_roundw
          case rel => exact ⟨k + 1, e, _, by go_num, rfl, by omega, hst.out, hA.set_ _ _, hB.setCell (Nat.le_refl _) _⟩
          case measure => simp [intOf]; omega
      · obtain rfl : k = N := by omega
        obtain ⟨z, hz⟩ : ∃ z, O[k]? = some z := ⟨_, List.getElem?_eq_getElem (by rw [hOl.out]; omega)⟩
        have hcz : wr.cell? ⟨g, k, none⟩ = some (.int .u32 (z : Int)) := hA.cell hz
        have hfz : wr.frozen? ⟨g, k, none⟩ = false := hA.frozen _
        have hdone := (by have h := hI.out; rw [hN.out] at h; exact h : PlInv (dg b) (dg a) (dg b).length c O).done (by rw [← hN.out, ← hM.out]; exact hMN)
        rw [← hN.out] at hdone
        obtain ⟨d1, d2, d3⟩ := hdone
        rw [val_dg, val_dg] at d3
        have hci : (c : Int) % 4294967296 = (c : Int) := by omega
        have hA2 := hA.set_ k c
        have hB2 : Below g w (wr.setCell ⟨g, k, none⟩ (.int .u32 (c : Int))) := hB.setCell (Nat.le_refl _) _
        have hR : Rd .u32 243 (wr.setCell ⟨g, k, none⟩ (.int .u32 (c : Int))) (.slice (some ⟨g, 0, none⟩) (k + 1) (k + 1)) (O.set k c) := by
          have := Rd.whole hA2 (by rw [d2]; unfold maxLen; omega)
          rwa [d2] at this
        replace d3 := Lib.hid d3
        replace hB2 := Lib.hid hB2
        replace hR := Lib.hid hR
        clear hz hA2 d2
        go_wp2_with fail
        refine (cut_any _ (O.set k c) _ hR.out d1).mono ?_
        rintro e w1 ⟨v, rfl, hv, rfl⟩
        replace hv := Lib.hid hv
        go_wp2
        go_ret
        refine ⟨v, rfl, by rw [Nat.add_comm, ← d3.out]; exact hv.out, ?_⟩
        rw [hg.out]
        exact hB2.out
  · obtain ⟨N, hN⟩ : ∃ N, N = (dg a).length := ⟨_, rfl⟩
    obtain ⟨M, hM⟩ : ∃ M, M = (dg b).length := ⟨_, rfl⟩
    have hmk := make_u32 (N + 1) (by omega)
    have hmk' : ∀ w : World, (Instr.makeSlice 149 (.int .i64 ((N : Int) + 1)) (.int .i64 ((N : Int) + 1))).run Tryz.prog w = .ok (.slice (some ⟨w.heap.size, 0, none⟩) (N + 1) (N + 1)) (w.alloc (.cells (ivs .u32 (List.replicate (N + 1) 0)).toArray 243)) := fun w => hmk w
    have hMN : M ≤ N := by omega
    have hNs : N ≤ 1073741824 := by omega
    have hltI : ¬ (N : Int) < (M : Int) := by omega
    rw [← hN, ← hM]
    have hlt := hltI
    replace hN := Lib.hid hN
    replace hM := Lib.hid hM
    clear hmk
    go_enter Tryz.func168, Tryz.ntmps168
    go_wp2
    have hA0 := Arr.new w .u32 243 (List.replicate (N + 1) 0)
    have hB0 : Below w.heap.size w (w.alloc (.cells (ivs .u32 (List.replicate (N + 1) 0)).toArray 243)) := (Below.refl _ _).alloc (Nat.le_refl _) _
    generalize hw0 : w.alloc (.cells (ivs .u32 (List.replicate (N + 1) 0)).toArray 243) = w0 at hA0 hB0 ⊢
    generalize hg : w.heap.size = g at *
    replace hg := Lib.hid hg
    clear hw0 hmk' hlt hle hltI
    go_loopw [6, 21] (fun cc i wr => ∃ (k c : Nat) (O : List Nat), i = .int .i64 (k : Int) ∧ cc = .int .u64 (c : Int) ∧ k ≤ N ∧ PlInv (dg a) (dg b) k c O ∧ Arr wr g .u32 243 O ∧ Below g w wr) (fun _ i _ => N - (intOf i).toNat)
    case atStart => exact ⟨0, 0, List.replicate (N + 1) 0, rfl, rfl, Nat.zero_le _, by rw [hN.out]; exact PlInv.start _ _, hA0, hB0⟩
    case round =>
      obtain ⟨k, c, O, rfl, rfl, hk, hI, hA, hB⟩ := hrel
      have hc1 := hI.carry
      have hOl : O.length = N + 1 := by rw [hI.len, ← hN.out]
      replace hOl := Lib.hid hOl
      replace hI := Lib.hid hI
      by_cases h0 : k < N
      · have h0I : (k : Int) < (N : Int) := by omega
        obtain ⟨x, hx⟩ : ∃ x, (dg a)[k]? = some x := ⟨_, List.getElem?_eq_getElem (by rw [← hN.out]; omega)⟩
        have hxs : x < 4294967296 := getElem?_dg hx
        obtain ⟨ga, oa, ca', La, ea, -, -, hAa, hLa⟩ := ha.out.open_ (fun e => by have := hN.out; rw [e] at this; simp at this; omega)
        injection ea with ea1 _ ea2
        subst ea1 ea2
        have hcx : wr.cell? ⟨ga, oa + k, none⟩ = some (.int .u32 (x : Int)) := (hB.cell (by have := hAa.lt; rw [hg.out] at this; exact this)).trans (hAa.cell (hLa _ _ hx))
        obtain ⟨z, hz⟩ : ∃ z, O[k]? = some z := ⟨_, List.getElem?_eq_getElem (by rw [hOl.out]; omega)⟩
        have hcz : wr.cell? ⟨g, k, none⟩ = some (.int .u32 (z : Int)) := hA.cell hz
        have hfz : wr.frozen? ⟨g, k, none⟩ = false := hA.frozen _
        by_cases h1 : k < M
        · have h1I : (k : Int) < (M : Int) := by omega
          obtain ⟨y, hy⟩ : ∃ y, (dg b)[k]? = some y := ⟨_, List.getElem?_eq_getElem (by rw [← hM.out]; omega)⟩
          have hys : y < 4294967296 := getElem?_dg hy
          obtain ⟨gb, ob, cb', Lb, eb, -, -, hAb, hLb⟩ := hb.out.open_ (fun e => by have := hM.out; rw [e] at this; simp at this; omega)
          injection eb with eb1 _ eb2
          subst eb1 eb2
          have hcy : wr.cell? ⟨gb, ob + k, none⟩ = some (.int .u32 (y : Int)) := (hB.cell (by have := hAb.lt; rw [hg.out] at this; exact this)).trans (hAb.cell (hLb _ _ hy))
          have hst := hI.out.step hx (Or.inl hy) hxs hys
          obtain ⟨d, hd⟩ : ∃ d, d = (c + x + y) % 4294967296 := ⟨_, rfl⟩
          obtain ⟨e, he⟩ : ∃ e, e = (c + x + y) / 4294967296 := ⟨_, rfl⟩
          rw [← hd, ← he] at hst
          have hdi : ((c : Int) + (x : Int) + (y : Int)) % 4294967296 = (d : Int) := by omega
          have hei : ((c : Int) + (x : Int) + (y : Int)) / 4294967296 = (e : Int) := by omega
          replace hst := Lib.hid hst
          clear hx hy hz hd he
          go_wp2
          go_roundw
          case rel => exact ⟨k + 1, e, _, by go_num, rfl, by omega, hst.out, hA.set_ _ _, hB.setCell (Nat.le_refl _) _⟩
          case measure => simp [intOf]; omega
        · have h1I : ¬ (k : Int) < (M : Int) := by omega
          have hst := hI.out.step (y := 0) hx (Or.inr ⟨by rw [← hM.out]; omega, rfl⟩) hxs (by omega)
          simp only [Nat.add_zero] at hst
          obtain ⟨d, hd⟩ : ∃ d, d = (c + x) % 4294967296 := ⟨_, rfl⟩
          obtain ⟨e, he⟩ : ∃ e, e = (c + x) / 4294967296 := ⟨_, rfl⟩
          rw [← hd, ← he] at hst
          have hdi : ((c : Int) + (x : Int)) % 4294967296 = (d : Int) := by omega
          have hei : ((c : Int) + (x : Int)) / 4294967296 = (e : Int) := by omega
          replace hst := Lib.hid hst
          clear hx hz hd he
          go_wp2
          go_roundw
          case rel => exact ⟨k + 1, e, _, by go_num, rfl, by omega, hst.out, hA.set_ _ _, hB.setCell (Nat.le_refl _) _⟩
          case measure => simp [intOf]; omega
      · obtain rfl : k = N := by omega
        obtain ⟨z, hz⟩ : ∃ z, O[k]? = some z := ⟨_, List.getElem?_eq_getElem (by rw [hOl.out]; omega)⟩
        have hcz : wr.cell? ⟨g, k, none⟩ = some (.int .u32 (z : Int)) := hA.cell hz
        have hfz : wr.frozen? ⟨g, k, none⟩ = false := hA.frozen _
        have hdone := (by have h := hI.out; rw [hN.out] at h; exact h : PlInv (dg a) (dg b) (dg a).length c O).done (by rw [← hN.out, ← hM.out]; exact hMN)
        rw [← hN.out] at hdone
        obtain ⟨d1, d2, d3⟩ := hdone
        rw [val_dg, val_dg] at d3
        have hci : (c : Int) % 4294967296 = (c : Int) := by omega
        have hA2 := hA.set_ k c
        have hB2 : Below g w (wr.setCell ⟨g, k, none⟩ (.int .u32 (c : Int))) := hB.setCell (Nat.le_refl _) _
        have hR : Rd .u32 243 (wr.setCell ⟨g, k, none⟩ (.int .u32 (c : Int))) (.slice (some ⟨g, 0, none⟩) (k + 1) (k + 1)) (O.set k c) := by
          have := Rd.whole hA2 (by rw [d2]; unfold maxLen; omega)
          rwa [d2] at this
        replace d3 := Lib.hid d3
        replace hB2 := Lib.hid hB2
        replace hR := Lib.hid hR
        clear hz hA2 d2
        go_wp2_with fail
        refine (cut_any _ (O.set k c) _ hR.out d1).mono ?_
        rintro e w1 ⟨v, rfl, hv, rfl⟩
        replace hv := Lib.hid hv
        go_wp2
        go_ret
        refine ⟨v, rfl, by rw [← d3.out]; exact hv.out, ?_⟩
        rw [hg.out]
        exact hB2.out
set_option maxRecDepth 100000 in
set_option maxHeartbeats 1000000 in
theorem less_any (va vb : Value) (a b : Nat) (w : World) (ha : Dg w va a) (hb : Dg w vb b) (hla : (dg a).length ≤ 1073741824) (hba : b ≤ a) :
    Calls Tryz.prog 169 #[va, vb] w (RetDg (a - b) w) := by
  obtain ⟨Aa, ca, rfl, ha1, ha2, ha3⟩ := id ha
  replace ha := Lib.hid ha
  replace ha3 := Lib.hid ha3
  obtain ⟨Ab, cb, rfl, hb1, hb2, hb3⟩ := id hb
  replace hb := Lib.hid hb
  replace hb3 := Lib.hid hb3
  obtain ⟨N, hN⟩ : ∃ N, N = (dg a).length := ⟨_, rfl⟩
  obtain ⟨M, hM⟩ : ∃ M, M = (dg b).length := ⟨_, rfl⟩
  have hmk := make_u32 N (by omega)
  have hMN : M ≤ N := by rw [hN, hM]; exact dg_len_mono hba
  rw [← hN] at hla
  rw [← hN, ← hM]
  replace hN := Lib.hid hN
  replace hM := Lib.hid hM
  replace hba := Lib.hid hba
  go_enter Tryz.func169, Tryz.ntmps169
  go_wp2
  have hA0 := Arr.new w .u32 243 (List.replicate N 0)
  have hB0 : Below w.heap.size w (w.alloc (.cells (ivs .u32 (List.replicate N 0)).toArray 243)) := (Below.refl _ _).alloc (Nat.le_refl _) _
  generalize hw0 : w.alloc (.cells (ivs .u32 (List.replicate N 0)).toArray 243) = w0 at hA0 hB0 ⊢
  generalize hg : w.heap.size = g at *
  replace hg := Lib.hid hg
  clear hw0 hmk
  go_loopw [6, 14] (fun cc i wr => ∃ (k c : Nat) (O : List Nat), i = .int .i64 (k : Int) ∧ cc = .int .u64 (c : Int) ∧ k ≤ N ∧ LsInv (dg a) (dg b) k c O ∧ Arr wr g .u32 243 O ∧ Below g w wr) (fun _ i _ => N - (intOf i).toNat)
  case atStart => exact ⟨0, 0, List.replicate N 0, rfl, rfl, Nat.zero_le _, by rw [hN.out]; exact LsInv.start _ _, hA0, hB0⟩
  case round =>
    obtain ⟨k, c, O, rfl, rfl, hk, hI, hA, hB⟩ := hrel
    have hc1 := hI.carry
    have hOl : O.length = N := by rw [hI.len, ← hN.out]
    replace hOl := Lib.hid hOl
    replace hI := Lib.hid hI
    by_cases h0 : k < N
    · have h0I : (k : Int) < (N : Int) := by omega
      obtain ⟨x, hx⟩ : ∃ x, (dg a)[k]? = some x := ⟨_, List.getElem?_eq_getElem (by rw [← hN.out]; omega)⟩
      have hxs : x < 4294967296 := getElem?_dg hx
      obtain ⟨ga, oa, ca', La, ea, -, -, hAa, hLa⟩ := ha.out.open_ (fun e => by have := hN.out; rw [e] at this; simp at this; omega)
      injection ea with ea1 _ ea2
      subst ea1 ea2
      have hcx : wr.cell? ⟨ga, oa + k, none⟩ = some (.int .u32 (x : Int)) := (hB.cell (by have := hAa.lt; rw [hg.out] at this; exact this)).trans (hAa.cell (hLa _ _ hx))
      obtain ⟨z, hz⟩ : ∃ z, O[k]? = some z := ⟨_, List.getElem?_eq_getElem (by rw [hOl.out]; omega)⟩
      have hcz : wr.cell? ⟨g, k, none⟩ = some (.int .u32 (z : Int)) := hA.cell hz
      have hfz : wr.frozen? ⟨g, k, none⟩ = false := hA.frozen _
      obtain ⟨y, hyy, hys, hyr⟩ : ∃ y, ((dg b)[k]? = some y ∨ ((dg b).length ≤ k ∧ y = 0)) ∧ y < 4294967296 ∧ (k < M → (dg b)[k]? = some y) := by
        by_cases h1 : k < M
        · obtain ⟨y, hy⟩ : ∃ y, (dg b)[k]? = some y := ⟨_, List.getElem?_eq_getElem (by rw [← hM.out]; omega)⟩
          exact ⟨y, Or.inl hy, getElem?_dg hy, fun _ => hy⟩
        · exact ⟨0, Or.inr ⟨by rw [← hM.out]; omega, rfl⟩, by omega, fun h => absurd h h1⟩
      have hy0 : ¬ k < M → y = 0 := fun h => by
        rcases hyy with h1 | ⟨-, h1⟩
        · exact absurd (by have := lt_of_getElem? h1; rw [hM.out]; exact this) h
        · exact h1
      -- the difference, wrapped
      obtain ⟨X, hX⟩ : ∃ X, X = if c ≤ x then x - c else x + 18446744073709551616 - c := ⟨_, rfl⟩
      have hXs : X < 18446744073709551616 := by rw [hX]; split <;> omega
      have hXi : IntKind.u64.wrap ((x : Int) - (c : Int)) = (X : Int) := by rw [IntKind.wrap_u64, hX]; split <;> omega
      obtain ⟨S, hS⟩ : ∃ S, S = if c + y ≤ x then x - c - y else x + 18446744073709551616 - c - y := ⟨_, rfl⟩
      have hSs : S < 18446744073709551616 := by rw [hS]; split <;> omega
      have hSi : IntKind.u64.wrap ((X : Int) - (y : Int)) = (S : Int) := by rw [IntKind.wrap_u64, hS, hX]; split <;> split <;> omega
      obtain ⟨d, hd⟩ : ∃ d, d = S % 4294967296 := ⟨_, rfl⟩
      obtain ⟨e, he⟩ : ∃ e, e = S / 9223372036854775808 := ⟨_, rfl⟩
      have hdi : (S : Int) % 4294967296 = (d : Int) := by omega
      have hei : (S : Int) / 9223372036854775808 = (e : Int) := by omega
      have hst := hI.out.step (d := d) (c' := e) hx hyy (by omega) (by omega) (by rw [hd, he, hS]; split <;> omega)
      replace hst := Lib.hid hst
      by_cases h1 : k < M
      · have h1I : (k : Int) < (M : Int) := by omega
        have hy := hyr h1
        obtain ⟨gb, ob, cb', Lb, eb, -, -, hAb, hLb⟩ := hb.out.open_ (fun e => by have := hM.out; rw [e] at this; simp at this; omega)
        injection eb with eb1 _ eb2
        subst eb1 eb2
        have hcy : wr.cell? ⟨gb, ob + k, none⟩ = some (.int .u32 (y : Int)) := (hB.cell (by have := hAb.lt; rw [hg.out] at this; exact this)).trans (hAb.cell (hLb _ _ hy))
        clear hx hyy hyr hy0 hy hz hd he hX hS
        go_wp2
        go_roundw
        case rel => exact ⟨k + 1, e, _, by go_num, rfl, by omega, hst.out, hA.set_ _ _, hB.setCell (Nat.le_refl _) _⟩
        case measure => simp [intOf]; omega
      · have h1I : ¬ (k : Int) < (M : Int) := by omega
        have hy := hy0 h1
        subst hy
        have hXS : X = S := by rw [hX, hS]; simp
        subst hXS
        clear hx hyy hyr hy0 hz hd he hX hS hSi
        go_wp2
        go_roundw
        case rel => exact ⟨k + 1, e, _, by go_num, rfl, by omega, hst.out, hA.set_ _ _, hB.setCell (Nat.le_refl _) _⟩
        case measure => simp [intOf]; omega
    · obtain rfl : k = N := by omega
      have hdone : val O = a - b := by
        have h := hI.out
        rw [hN.out] at h
        have := h.done (by rw [← hN.out, ← hM.out]; exact hMN) (by rw [val_dg, val_dg]; exact hba.out)
        rwa [val_dg, val_dg] at this
      have hR : Rd .u32 243 wr (.slice (some ⟨g, 0, none⟩) k k) O := by
        have := Rd.whole hA (by rw [hOl.out]; unfold maxLen; omega)
        rwa [hOl.out] at this
      have hsm := hI.out.sm
      replace hdone := Lib.hid hdone
      replace hR := Lib.hid hR
      go_wp2_with fail
      refine (cut_any _ O _ hR.out hsm).mono ?_
      rintro e w1 ⟨v, rfl, hv, rfl⟩
      replace hv := Lib.hid hv
      go_wp2
      go_ret
      refine ⟨v, rfl, by rw [← hdone.out]; exact hv.out, ?_⟩
      rw [hg.out]
      exact hB
set_option maxRecDepth 100000 in
set_option maxHeartbeats 1000000 in
theorem times_wide (va vb : Value) (a b : Nat) (w : World) (ha : Dg w va a) (hb : Dg w vb b) (hla : (dg a).length ≤ 1073741824) (hlb : (dg b).length ≤ 1073741824) :
    Calls Tryz.prog 166 #[va, vb] w (RetDg (a * b) w) := by
  obtain ⟨Aa, ca, rfl, ha1, ha2, ha3⟩ := id ha
  replace ha := Lib.hid ha
  replace ha3 := Lib.hid ha3
  obtain ⟨Ab, cb, rfl, hb1, hb2, hb3⟩ := id hb
  replace hb := Lib.hid hb
  replace hb3 := Lib.hid hb3
  obtain ⟨N, hN⟩ : ∃ N, N = (dg a).length := ⟨_, rfl⟩
  obtain ⟨M, hM⟩ : ∃ M, M = (dg b).length := ⟨_, rfl⟩
  have hmk := make_u32 (N + M) (by omega)
  have hmk' : ∀ w : World, (Instr.makeSlice 149 (.int .i64 ((N : Int) + (M : Int))) (.int .i64 ((N : Int) + (M : Int)))).run Tryz.prog w = .ok (.slice (some ⟨w.heap.size, 0, none⟩) (N + M) (N + M)) (w.alloc (.cells (ivs .u32 (List.replicate (N + M) 0)).toArray 243)) := fun w => hmk w
  rw [← hN] at hla ⊢
  rw [← hM] at hlb ⊢
  replace hN := Lib.hid hN
  replace hM := Lib.hid hM
  clear hmk
  go_enter Tryz.func166, Tryz.ntmps166
  go_wp2
  have hA0 := Arr.new w .u32 243 (List.replicate (N + M) 0)
  have hB0 : Below w.heap.size w (w.alloc (.cells (ivs .u32 (List.replicate (N + M) 0)).toArray 243)) := (Below.refl _ _).alloc (Nat.le_refl _) _
  generalize hw0 : w.alloc (.cells (ivs .u32 (List.replicate (N + M) 0)).toArray 243) = w0 at hA0 hB0 ⊢
  generalize hg : w.heap.size = g at *
  replace hg := Lib.hid hg
  clear hw0 hmk'
  go_loopw [19] (fun i wr => ∃ (k : Nat) (O : List Nat), i = .int .i64 (k : Int) ∧ k ≤ N ∧ TmInv (dg a) (dg b) k O ∧ Arr wr g .u32 243 O ∧ Below g w wr) (fun i _ => N - (intOf i).toNat)
  case atStart => exact ⟨0, List.replicate (N + M) 0, rfl, Nat.zero_le _, by rw [hN.out, hM.out]; exact TmInv.start _ _, hA0, hB0⟩
  case round =>
    obtain ⟨i, O0, rfl, hi, hI, hA, hB⟩ := hrel
    have hOl : O0.length = N + M := by rw [hI.len, ← hN.out, ← hM.out]
    replace hOl := Lib.hid hOl
    replace hI := Lib.hid hI
    by_cases h0 : i < N
    · have h0I : (i : Int) < (N : Int) := by omega
      obtain ⟨x, hx⟩ : ∃ x, (dg a)[i]? = some x := ⟨_, List.getElem?_eq_getElem (by rw [← hN.out]; omega)⟩
      have hxs : x < 4294967296 := getElem?_dg hx
      obtain ⟨ga, oa, ca', La, ea, -, -, hAa, hLa⟩ := ha.out.open_ (fun e => by have := hN.out; rw [e] at this; simp at this; omega)
      injection ea with ea1 _ ea2
      subst ea1 ea2
      have hcx : wr.cell? ⟨ga, oa + i, none⟩ = some (.int .u32 (x : Int)) := (hB.cell (by have := hAa.lt; rw [hg.out] at this; exact this)).trans (hAa.cell (hLa _ _ hx))
      replace hx := Lib.hid hx
      replace hAa := Lib.hid hAa
      replace hLa := Lib.hid hLa
      replace hA := Lib.hid hA
      replace hB := Lib.hid hB
      obtain ⟨wo, rfl⟩ : ∃ wo : World, wo = wr := ⟨_, rfl⟩
      go_wp2_with fail
      clear hcx
      go_loopw [8, 26] (fun cc kk wq => ∃ (k c : Nat) (O : List Nat), kk = .int .i64 (k : Int) ∧ cc = .int .u64 (c : Int) ∧ k ≤ M ∧ TrInv O0 (dg b) i x k c O ∧ Arr wq g .u32 243 O ∧ Below g w wq) (fun _ kk _ => M - (intOf kk).toNat)
      case atStart => exact ⟨0, 0, O0, rfl, rfl, Nat.zero_le _, TrInv.start hI.out.sm, hA.out, hB.out⟩
      case round =>
        obtain ⟨k, c, O, rfl, rfl, hk, hR, hA, hB⟩ := hrel
        have hc1 := hR.carry
        have hOl2 : O.length = N + M := by rw [hR.len]; exact hOl.out
        replace hOl2 := Lib.hid hOl2
        replace hR := Lib.hid hR
        by_cases h1 : k < M
        · have h1I : (k : Int) < (M : Int) := by omega
          obtain ⟨y, hy⟩ : ∃ y, (dg b)[k]? = some y := ⟨_, List.getElem?_eq_getElem (by rw [← hM.out]; omega)⟩
          have hys : y < 4294967296 := getElem?_dg hy
          obtain ⟨gb, ob, cb', Lb, eb, -, -, hAb, hLb⟩ := hb.out.open_ (fun e => by have := hM.out; rw [e] at this; simp at this; omega)
          injection eb with eb1 _ eb2
          subst eb1 eb2
          have hcy : wr.cell? ⟨gb, ob + k, none⟩ = some (.int .u32 (y : Int)) := (hB.cell (by have := hAb.lt; rw [hg.out] at this; exact this)).trans (hAb.cell (hLb _ _ hy))
          obtain ⟨z, hz⟩ : ∃ z, O[i + k]? = some z := ⟨_, List.getElem?_eq_getElem (by rw [hOl2.out]; omega)⟩
          have hzs : z < 4294967296 := hR.out.sm.get hz
          have hcz : wr.cell? ⟨g, i + k, none⟩ = some (.int .u32 (z : Int)) := hA.cell hz
          have hfz : wr.frozen? ⟨g, i + k, none⟩ = false := hA.frozen _
          have hst := hR.out.step hy hz hxs hys
          obtain ⟨b1, b2, b3⟩ := mul_bound hc1 hxs hys hzs
          obtain ⟨P, hP⟩ : ∃ P, P = x * y := ⟨_, rfl⟩
          have hPi : (x : Int) * (y : Int) = (P : Int) := by rw [hP]; push_cast; rfl
          rw [← hP] at hst b1 b2 b3
          obtain ⟨d, hd⟩ : ∃ d, d = (c + (P + z)) % 4294967296 := ⟨_, rfl⟩
          obtain ⟨e, he⟩ : ∃ e, e = (c + (P + z)) / 4294967296 := ⟨_, rfl⟩
          rw [← hd, ← he] at hst
          have hdi : ((c : Int) + ((P : Int) + (z : Int))) % 4294967296 = (d : Int) := by omega
          have hei : ((c : Int) + ((P : Int) + (z : Int))) / 4294967296 = (e : Int) := by omega
          replace hst := Lib.hid hst
          clear hy hz hP hd he
          go_wp2
          go_roundw
          case rel => exact ⟨k + 1, e, _, by go_num, rfl, by omega, hst.out, hA.set_ _ _, hB.setCell (Nat.le_refl _) _⟩
          case measure => simp [intOf]; omega
        · obtain rfl : k = M := by omega
          obtain ⟨z, hz⟩ : ∃ z, O[i + k]? = some z := ⟨_, List.getElem?_eq_getElem (by rw [hOl2.out]; omega)⟩
          have hcz : wr.cell? ⟨g, i + k, none⟩ = some (.int .u32 (z : Int)) := hA.cell hz
          have hfz : wr.frozen? ⟨g, i + k, none⟩ = false := hA.frozen _
          have hst : TmInv (dg a) (dg b) (i + 1) (O.set (i + k) c) := by
            have h := hR.out
            rw [hM.out] at h ⊢
            exact hI.out.step hx.out h
          have hci : (c : Int) % 4294967296 = (c : Int) := by omega
          replace hst := Lib.hid hst
          clear hz
          go_wp2
          go_roundw
          case rel => exact ⟨i + 1, _, by go_num, by omega, hst.out, hA.set_ _ _, hB.setCell (Nat.le_refl _) _⟩
          case measure => simp [intOf]; omega
    · obtain rfl : i = N := by omega
      have hdone : val O0 = a * b := by
        have h := hI.out.value
        rw [hN.out, List.take_length, val_dg, val_dg] at h
        exact h
      have hR : Rd .u32 243 wr (.slice (some ⟨g, 0, none⟩) (i + M) (i + M)) O0 := by
        have := Rd.whole hA (by rw [hOl.out]; unfold maxLen; omega)
        rwa [hOl.out] at this
      have hsm := hI.out.sm
      replace hdone := Lib.hid hdone
      replace hR := Lib.hid hR
      go_wp2_with fail
      refine (cut_any _ O0 _ hR.out hsm).mono ?_
      rintro e w1 ⟨v, rfl, hv, rfl⟩
      replace hv := Lib.hid hv
      go_wp2
      go_ret
      refine ⟨v, rfl, by rw [← hdone.out]; exact hv.out, ?_⟩
      rw [hg.out]
      exact hB
open Go.RowKit Go.Sort
section
variable {P : Program} {ops : Array Oper} {md : Region.Mode} {S : World → Prop} {Q : Exit → Act → World → Prop}
def heldAny (P : Program) (md : Region.Mode) (ops : Array Oper) (Q : Exit → Act → World → Prop) (S : World → Prop) (n : Nat) (L : Array Bool → Act → World → Prop) : Nat → Array Bool → Act → World → Prop
  | 0, listed, a, w => L listed a w
  | f + 1, listed, a, w => Region.ready md ops listed ≠ [] ∧ ∀ i, i ∈ Region.ready md ops listed → i < n ∧ wpOp P ops Q i (fun a' w' => S w' ∧ heldAny P md ops Q S n L f (listed.setIfInBounds i true) a' w') a w
theorem any_of_heldAny {n g : Nat} {L : Array Bool → Act → World → Prop} (hL : ∀ listed a w, L listed a w → wpAny P md ops Q g listed a w) (f : Nat) :
    ∀ (listed : Array Bool) (a : Act) (w : World), heldAny P md ops Q S n L f listed a w → wpAny P md ops Q (f + g) listed a w := by
  induction f with
  | zero => intro listed a w h; rw [Nat.zero_add]; exact hL _ _ _ h
  | succ f ih =>
    intro listed a w h
    rw [Nat.add_right_comm]
    exact ⟨fun h0 => (h.1 h0).elim, fun i hi => wpOp_mono (fun a' w' h' => ih _ a' w' h'.2) (h.2 i hi).2⟩
theorem heldAny_take {n i : Nat} {oi : Oper} {v : Value} {L : Array Bool → Act → World → Prop} (hi : ops[i]? = some oi) (hsel : ∀ (j : Nat) (o : Oper) cs b, ops[j]? = some o → o.op ≠ .select cs b)
    (hQ : ∀ c a w, Q (.panic c) (a.put oi.dst v) w → Q (.panic c) a w)
    (hs : Region.sinkB md ops n = true) (hc : Region.chainB md ops n = true) (hn : n < ops.size) (hin : i < n) (hdone : ∀ listed a w, L listed a w → ∀ j, j ∈ Region.ready md ops listed → n ≤ j) (f : Nat) :
    ∀ (listed : Array Bool) (a : Act) (w : World), HeadInv md ops n listed →
      (∀ j oj, ops[j]? = some oj → j ≠ i → listed.getD j true = false → (∀ e ∈ oj.after, Region.binds md e = true → e.on ≠ i) → oi.apart ops oj = true) →
      i ∈ Region.ready md ops listed → YieldsIf P ops S oi v a → S w → heldAny P md ops Q S n L f (listed.setIfInBounds i true) (a.put oi.dst v) w → heldAny P md ops Q S n L (f + 1) listed a w := by
  induction f with
  | zero =>
    intro listed a w inv _ hr hy hS H
    have hun := (mem_ready.1 hr).1
    refine ⟨fun h => (by rw [h] at hr; cases hr), fun j hj => ?_⟩
    have hjn : j < n := Nat.lt_of_not_le fun hle => tail_waits hs hc hn inv _ i rfl hin hun j hle hj
    refine ⟨hjn, ?_⟩
    by_cases hji : j = i
    · rw [hji]; exact hy.wpOp hi hS ⟨hS, H⟩
    · exact absurd (hdone _ _ _ H j (ready_mono hj hji)) (Nat.not_le_of_lt hjn)
  | succ f ih =>
    intro listed a w inv hfree hr hy hS H
    have hun := (mem_ready.1 hr).1
    refine ⟨fun h => (by rw [h] at hr; cases hr), fun j hj => ?_⟩
    have hjn : j < n := Nat.lt_of_not_le fun hle => tail_waits hs hc hn inv _ i rfl hin hun j hle hj
    refine ⟨hjn, ?_⟩
    by_cases hji : j = i
    · rw [hji]; exact hy.wpOp hi hS ⟨hS, H⟩
    obtain ⟨hjun, oj, hoj, hall⟩ := mem_ready.1 hj
    have hnot : ∀ e ∈ oj.after, Region.binds md e = true → e.on ≠ i := fun e he hb heq => by
      have h1 := hall e he hb
      rw [heq, getD_both hun] at h1
      cases h1
    refine wpOp_mono (fun a' w' h3 => ⟨h3.2.1, ih (listed.setIfInBounds j true) a' w' (inv.set hj hjn) (fun k ok hk hki hku hno => ?_) (ready_mono hr (Ne.symm hji)) h3.1 h3.2.1 ?_⟩)
      (wpOp_putIf hoj (hfree j oj hoj hji hjun hnot) (fun cs b => hsel i oi cs b hi) (fun cs b => hsel j oj cs b hoj) hQ hy ((H.2 j (ready_mono hj hji)).2))
    · refine hfree k ok hk hki ?_ hno
      by_cases hjk : j = k
      · rw [← hjk]; exact hjun
      · rwa [getD_set_ne true hjk] at hku
    · rw [Array.setIfInBounds_comm _ _ hji]
      exact h3.2.2
def wpReads (P : Program) (ops : Array Oper) (S : World → Prop) (T : Act → Prop) : List Oper → Act → Prop
  | [], a => T a
  | o :: rest, a => ∃ v, YieldsIf P ops S o v a ∧ wpReads P ops S T rest (a.put o.dst v)
theorem wpReads_nil {T : Act → Prop} {a : Act} (h : T a) : wpReads P ops S T [] a := h
theorem wpReads_cons {T : Act → Prop} {a : Act} {o : Oper} {rest : List Oper} {v : Value} (hy : YieldsIf P ops S o v a) (h : wpReads P ops S T rest (a.put o.dst v)) : wpReads P ops S T (o :: rest) a := ⟨v, hy, h⟩
def onlyB (md : Region.Mode) (ops : Array Oper) : Nat → Nat → Array Bool → Bool
  | 0, k, listed => decide (Region.ready md ops listed = [k])
  | f + 1, k, listed => onlyB md ops f (k + 1) (listed.setIfInBounds k true)
theorem heldAny_of_reads {n g m : Nat} {w : World} {T : Act → Prop} {L : Array Bool → Act → World → Prop} (hQ : ∀ c a d v w, Q (.panic c) (Act.put a d v) w → Q (.panic c) a w)
    (hsel : Region.noSelect ops = true) (hs : Region.sinkB md ops n = true) (hc : Region.chainB md ops n = true) (hn : n < ops.size) (hmn : n = m + 1) (hS : S w)
    (hdone : ∀ listed a w, L listed a w → ∀ j, j ∈ Region.ready md ops listed → n ≤ j)
    (hT : ∀ listed a, Region.lexHead md ops g 1 m listed = true → T a → wpOp P ops Q m (fun a' w' => S w' ∧ L (listed.setIfInBounds m true) a' w') a w) :
    ∀ (l : List Oper) (k : Nat) (listed : Array Bool) (a : Act), (∀ j, j < l.length → l[j]? = ops[k + j]?) → k + l.length = m → HeadInv md ops n listed → Region.lexHead md ops g (l.length + 1) k listed = true → onlyB md ops l.length k listed = true →
      wpReads P ops S T l a → heldAny P md ops Q S n L (l.length + 1) listed a w := by
  intro l
  induction l with
  | nil =>
    intro k listed a _ hk _ hB hO h
    have hkm : k = m := by simpa using hk
    rw [hkm] at hB hO
    simp only [List.length_nil, onlyB, decide_eq_true_eq] at hO
    refine ⟨fun h0 => (by rw [hO] at h0; cases h0), fun i hi => ?_⟩
    rw [hO] at hi
    have him : i = m := by simpa using hi
    rw [him]
    exact ⟨by omega, hT listed a hB h⟩
  | cons o l ih =>
    intro k listed a hl hk inv hB hO h
    have h0 : ops[k]? = some o := by simpa using (hl 0 (by simp)).symm
    rw [List.length_cons] at hB hO hk
    have hB2 : ((Region.ready md ops listed).contains k && Region.free md ops listed k && Region.lexHead md ops g (l.length + 1) (k + 1) (listed.setIfInBounds k true)) = true := hB
    simp only [Bool.and_eq_true] at hB2
    obtain ⟨⟨hr, hf⟩, hB'⟩ := hB2
    have hr' : k ∈ Region.ready md ops listed := by simpa using hr
    obtain ⟨v, hy, hK⟩ := h
    refine heldAny_take h0 (Region.noSelect_spec hsel) (fun c a w => hQ c a _ _ w) hs hc hn (by omega) hdone (l.length + 1) listed a w inv (Region.free_spec h0 hf) hr' hy hS ?_
    exact ih (k + 1) _ _ (fun j hj => by have := hl (j + 1) (by simp; omega); simpa [Nat.add_assoc, Nat.add_comm 1 j] using this) (by omega) (inv.set hr' (by omega)) hB' hO hK
theorem wp_region_reads_tail {id : Nat} {a : Act} {w : World} {l : List Oper} (m : Nat) (hm : P.follows .mixedOrders = true) (hB : Region.lexTailB .any l.toArray (m + 1) = true) (hO : onlyB .any l.toArray m 0 (Array.replicate l.toArray.size false) = true)
    (hQ : ∀ c a d v w, Q (.panic c) (Act.put a d v) w → Q (.panic c) a w) (hS : S { w with drawn := w.drawn + 1 })
    (h : wpReads P l.toArray S (fun a' => wpOp P l.toArray Q m (fun a'' w' => S w' ∧ wpList P l.toArray Q (l.drop (m + 1)) a'' w') a' { w with drawn := w.drawn + 1 }) (l.take m) a) : (Code.region id l.toArray true).wp P Q a w := by
  simp only [Region.lexTailB, Bool.and_eq_true, decide_eq_true_eq] at hB
  obtain ⟨⟨⟨⟨hsel, hn⟩, hs⟩, hc⟩, hlex⟩ := hB
  have hnl : m + 1 < l.length := by simpa using hn
  have htl : (l.take m).length = m := by rw [List.length_take]; omega
  have hdl : (l.drop (m + 1)).length = l.toArray.size - (m + 1) := by simp
  have inv0 : HeadInv .any l.toArray (m + 1) (Array.replicate l.toArray.size false) :=
    ⟨by simp, fun j oj _ hl => (by rw [getD_replicate_false] at hl; cases hl), fun t _ ht => getD_in (by simpa using ht) (getD_replicate_false _ _)⟩
  have H := heldAny_of_reads (md := .any) (g := l.toArray.size - (m + 1)) (m := m) (L := fun listed' a' w' => Region.seqB .any l.toArray (l.toArray.size - (m + 1)) (m + 1) listed' = true ∧ wpList P l.toArray Q (l.drop (m + 1)) a' w') hQ hsel hs hc hn rfl hS
    (fun _ _ _ hL => seqB_ready hL.1) (fun listed a' hB' hT => by
      have hB2 : ((Region.ready .any l.toArray listed).contains m && Region.free .any l.toArray listed m && Region.seqB .any l.toArray (l.toArray.size - (m + 1)) (m + 1) (listed.setIfInBounds m true)) = true := hB'
      simp only [Bool.and_eq_true] at hB2
      exact wpOp_mono (fun a'' w'' h'' => ⟨h''.1, hB2.2, h''.2⟩) hT) (l.take m) 0 _ a (fun j hj => by
    rw [htl] at hj
    simp [hj]) (by simpa using htl) inv0 (by rw [htl]; exact hlex) (by rw [htl]; exact hO) h
  refine wp_region_any hm ?_
  have key := any_of_heldAny (Q := Q) (g := l.toArray.size - (m + 1)) (fun listed a' w' hL => by
    have := wpAny_of_seq (md := .any) (Q' := Q) (l.drop (m + 1)) (m + 1) listed a' w' (fun j => by simp [List.getElem?_drop]) (by rw [hdl]; exact hL.1) hL.2
    rwa [hdl] at this) _ _ _ _ H
  rw [htl, show m + 1 + (l.toArray.size - (m + 1)) = l.toArray.size by omega] at key
  exact key
theorem wp_region_reads_call {id : Nat} {a : Act} {w : World} {l : List Oper} {o : Oper} (m : Nat) (ho : l.toArray[m]? = some o) (hm : P.follows .mixedOrders = true) (hB : Region.lexTailB .any l.toArray (m + 1) = true) (hO : onlyB .any l.toArray m 0 (Array.replicate l.toArray.size false) = true)
    (hQ : ∀ c a d v w, Q (.panic c) (Act.put a d v) w → Q (.panic c) a w)
    (h : wpReads P l.toArray (fun w' => ∃ p : Regrown, w' = grow (redrawn w p.d) p.os) (fun a' => ∀ K : Act → World → Prop, (∀ a'' w', Below w.heap.size w w' → wpList P l.toArray Q (l.drop (m + 1)) a'' w' → K a'' w') →
      if Region.wanted o (yielded l.toArray a'.tmps) = true then Oper.wp P o a' w.drew K Q else K (a'.put o.dst undef) w.drew) (l.take m) a) : (Code.region id l.toArray true).wp P Q a w := by
  refine wp_region_reads_tail (S := fun w' => ∃ p : Regrown, w' = grow (redrawn w p.d) p.os) m hm hB hO hQ ⟨⟨w.drawn + 1, #[]⟩, by rw [grow_empty]; rfl⟩ ?_
  have mono : ∀ (l' : List Oper) (a : Act) {T T' : Act → Prop}, (∀ a, T a → T' a) → wpReads P l.toArray (fun w' => ∃ p : Regrown, w' = grow (redrawn w p.d) p.os) T l' a → wpReads P l.toArray (fun w' => ∃ p : Regrown, w' = grow (redrawn w p.d) p.os) T' l' a := by
    intro l'
    induction l' with
    | nil => intro a T T' hT h; exact hT _ h
    | cons o l' ih =>
      intro a T T' hT h
      obtain ⟨v, hy, h⟩ := h
      exact ⟨v, hy, ih _ hT h⟩
  refine mono _ _ (fun a' h' => ?_) h
  refine wpOp_step ho (fun K hK => h' K (fun a'' w'' hb hw => hK a'' w'' ⟨regrown_of_below hb, hw⟩))
end
open Go.RowKit Go.Sort
theorem below_after {w w1 : World} {B : Nat} (hB : B ≤ w.heap.size) (hb : Below w.drew.heap.size w.drew w1) : Below B w w1 := (Below.refl B w).drew.trans (hb.mono hB)
theorem bs_after {w w1 : World} {p o : Nat} (h : BS w p o) (hb : Below w.drew.heap.size w.drew w1) : BS w1 p o := BS.below (w := w.drew) h hb
set_option maxRecDepth 100000 in
set_option maxHeartbeats 1000000 in
theorem mulBig_any (p o pa oa pb ob : Nat) (x y : Int) (w : World) (h : BS w p o) (hx : Big w pa oa x) (hy : Big w pb ob y) (hlx : (dg x.natAbs).length ≤ 1073741823) (hly : (dg y.natAbs).length ≤ 1073741823) :
    Calls Tryz.prog 130 #[.pointer (some ⟨p, o, none⟩), .pointer (some ⟨pa, oa, none⟩), .pointer (some ⟨pb, ob, none⟩)] w (RetBig (x * y) p o w) := by
  obtain ⟨v, hc1, hc2, hv⟩ := hx.cells
  obtain ⟨v', hc1', hc2', hv'⟩ := hy.cells
  obtain ⟨b, hb⟩ : ∃ b, b = decide (x < 0) := ⟨_, rfl⟩
  obtain ⟨b', hb'⟩ : ∃ b, b = decide (y < 0) := ⟨_, rfl⟩
  rw [← hb] at hc1
  rw [← hb'] at hc1'
  have hz : (if (!b == b') then -((x.natAbs * y.natAbs : Nat) : Int) else ((x.natAbs * y.natAbs : Nat) : Int)) = x * y := by
    rw [hb, hb']
    have e1 : (x < 0 ∧ x = -(x.natAbs : Int)) ∨ (¬ x < 0 ∧ x = (x.natAbs : Int)) := by omega
    have e2 : (y < 0 ∧ y = -(y.natAbs : Int)) ∨ (¬ y < 0 ∧ y = (y.natAbs : Int)) := by omega
    generalize x.natAbs = n at *
    generalize y.natAbs = m at *
    rcases e1 with ⟨h1, e1⟩ | ⟨h1, e1⟩ <;> rcases e2 with ⟨h2, e2⟩ | ⟨h2, e2⟩ <;> simp [h1, h2] <;> rw [e1, e2] <;> simp [Int.mul_neg, Int.neg_mul]
  have hl : ∀ (W : World) (u : Value), BS W p o → Dg W u (x.natAbs * y.natAbs) → Calls Tryz.prog 159 #[.pointer (some ⟨p, o, none⟩), .bool (!b == b'), u] W (RetBig (x * y) p o W) := fun W u h1 h2 => by
    have := laid_any p o (x.natAbs * y.natAbs) (!b == b') u W h1 h2
    rw [hz] at this
    exact this
  have ht2 := Lib.hid (times_wide v v' x.natAbs y.natAbs w.drew hv hv' (by omega) (by omega))
  have k1 : ∀ d os, (grow (redrawn w d) os).cell? ⟨pa, oa, none⟩ = some (.bool b) := cell_regrown hc1
  have k2 : ∀ d os, (grow (redrawn w d) os).cell? ⟨pa, oa + 1, none⟩ = some v := cell_regrown hc2
  have k3 : ∀ d os, (grow (redrawn w d) os).cell? ⟨pb, ob, none⟩ = some (.bool b') := cell_regrown hc1'
  have k4 : ∀ d os, (grow (redrawn w d) os).cell? ⟨pb, ob + 1, none⟩ = some v' := cell_regrown hc2'
  replace hl := Lib.hid hl
  replace h := Lib.hid h
  clear hz hb hb' hv hv' hx hy hlx hly hc1 hc2 hc1' hc2'
  go_enter Tryz.func130, Tryz.ntmps130
  go_wp2_with fail
  refine wp_region_reads_call 18 rfl (by kernel_rfl) (by kernel_rfl) (by kernel_rfl) (fun c a d v w h => by cases d <;> exact h) ?_
  simp only [List.take_succ_cons, List.take_zero, List.drop_succ_cons, List.drop_zero]
  iterate 18
    refine wpReads_cons (v := ?_) (Or.inl ⟨by rfl, ?_⟩) ?_
    rotate_left
    · rintro w' ⟨p, rfl⟩
      go_simp
      try with_reducible rfl
    try simp only [Act.put, List.setIfInBounds_toArray, List.set_cons_zero, List.set_cons_succ]
  refine wpReads_nil ?_
  intro K hK
  rw [if_pos (by rfl)]
  go_simp
  refine ht2.out.mono ?_
  rintro e w1 ⟨u, rfl, hu, hbu⟩
  refine hK _ _ (below_after (Nat.le_refl _) hbu) ?_
  have kS := Lib.hid (bs_after h.out hbu)
  have kB := Lib.hid (below_after (Nat.le_refl _) hbu)
  replace hu := Lib.hid hu
  clear hK hbu k1 k2 k3 k4
  go_wp2_with fail
  refine (hl.out _ _ kS.out hu.out).mono ?_
  rintro e w2 ⟨rfl, hb2, hg⟩
  replace hb2 := Lib.hid hb2
  replace hg := Lib.hid hg
  go_wp2_with fail
  go_ret
  exact ⟨rfl, hb2.out, gb_trans (gb_of_below kB.out) hg.out⟩
set_option maxRecDepth 100000 in
set_option maxHeartbeats 2000000 in
theorem addBig_any (p o pa oa pb ob : Nat) (x y : Int) (w : World) (h : BS w p o) (hx : Big w pa oa x) (hy : Big w pb ob y) (hlx : (dg x.natAbs).length ≤ 1073741823) (hly : (dg y.natAbs).length ≤ 1073741823) :
    Calls Tryz.prog 132 #[.pointer (some ⟨p, o, none⟩), .pointer (some ⟨pa, oa, none⟩), .pointer (some ⟨pb, ob, none⟩)] w (RetBig (x + y) p o w) := by
  obtain ⟨v, hc1, hc2, hv⟩ := hx.cells
  obtain ⟨v', hc1', hc2', hv'⟩ := hy.cells
  obtain ⟨b, hb⟩ : ∃ b, b = decide (x < 0) := ⟨_, rfl⟩
  obtain ⟨b', hb'⟩ : ∃ b, b = decide (y < 0) := ⟨_, rfl⟩
  rw [← hb] at hc1
  rw [← hb'] at hc1'
  obtain ⟨C, hC⟩ : ∃ C, C = cmpI x.natAbs y.natAbs := ⟨_, rfl⟩
  have hCn : C < 0 ↔ x.natAbs < y.natAbs := by rw [hC]; unfold cmpI; split <;> (try split) <;> omega
  have hcmp := fun W h1 h2 => cmp_any v v' x.natAbs y.natAbs W h1 h2
  unfold RetCmp at hcmp
  rw [← hC] at hcmp
  replace hv := Lib.hid hv
  replace hv' := Lib.hid hv'
  replace hcmp := Lib.hid hcmp
  replace hb := Lib.hid hb
  replace hb' := Lib.hid hb'
  replace hCn := Lib.hid hCn
  replace h := Lib.hid h
  clear hx hy hC
  go_enter Tryz.func132, Tryz.ntmps132
  go_wp2_with fail
  go_quiet ((go_at_call 165; exact quiet_dr (hcmp.out _ hv.out hv'.out)))
  revert nq
  intro n1
  go_wp2_with fail
  go_quiet (fail)
  have k1 : ∀ d os, (grow (redrawn ((w.drewN n1).drewN nq) d) os).cell? ⟨pa, oa, none⟩ = some (.bool b) := cell_regrown (w := (w.drewN n1).drewN nq) hc1
  have k2 : ∀ d os, (grow (redrawn ((w.drewN n1).drewN nq) d) os).cell? ⟨pa, oa + 1, none⟩ = some v := cell_regrown (w := (w.drewN n1).drewN nq) hc2
  have k3 : ∀ d os, (grow (redrawn ((w.drewN n1).drewN nq) d) os).cell? ⟨pb, ob, none⟩ = some (.bool b') := cell_regrown (w := (w.drewN n1).drewN nq) hc1'
  have k4 : ∀ d os, (grow (redrawn ((w.drewN n1).drewN nq) d) os).cell? ⟨pb, ob + 1, none⟩ = some v' := cell_regrown (w := (w.drewN n1).drewN nq) hc2'
  have hS' : BS ((w.drewN n1).drewN nq) p o := (h.out.drewN n1).drewN nq
  have hv1 : Dg ((w.drewN n1).drewN nq) v x.natAbs := (hv.out.drewN n1).drewN nq
  have hv2 : Dg ((w.drewN n1).drewN nq) v' y.natAbs := (hv'.out.drewN n1).drewN nq
  have hG : w.grownBy ((w.drewN n1).drewN nq) (some p) := gb_drewN (gb_drewN (gb_refl _ _) n1) nq
  generalize ((w.drewN n1).drewN nq) = W at k1 k2 k3 k4 hS' hv1 hv2 hG ⊢
  replace h := Lib.hid hS'
  replace hv := Lib.hid hv1
  replace hv' := Lib.hid hv2
  replace hG := Lib.hid hG
  clear hS' hv1 hv2 hc1 hc2 hc1' hc2' hcmp
  have e1 : (x < 0 ∧ x = -(x.natAbs : Int)) ∨ (¬ x < 0 ∧ x = (x.natAbs : Int)) := by omega
  have e2 : (y < 0 ∧ y = -(y.natAbs : Int)) ∨ (¬ y < 0 ∧ y = (y.natAbs : Int)) := by omega
  replace e1 := Lib.hid e1
  replace e2 := Lib.hid e2
  by_cases hbb : b = b'
  · have hz : (if b then -((x.natAbs + y.natAbs : Nat) : Int) else ((x.natAbs + y.natAbs : Nat) : Int)) = x + y := by
      have hbo := hb.out
      have hbo' := hb'.out
      rw [← hbb, hbo] at hbo'
      have hiff : x < 0 ↔ y < 0 := by simpa using hbo'
      rw [hbo]
      by_cases h0 : x < 0
      · simp [h0]; omega
      · simp [h0]; omega
    have hl : ∀ (W : World) (u : Value), BS W p o → Dg W u (x.natAbs + y.natAbs) → Calls Tryz.prog 159 #[.pointer (some ⟨p, o, none⟩), .bool b, u] W (RetBig (x + y) p o W) := fun W u h1 h2 => by
      have := laid_any p o (x.natAbs + y.natAbs) b u W h1 h2
      rw [hz] at this
      exact this
    replace hl := Lib.hid hl
    clear hz e1 e2 hCn hb hb'
    subst hbb
    simp only [beq_self_eq_true]
    have ht2 := Lib.hid (plus_any v v' x.natAbs y.natAbs W.drew hv.out hv'.out (by omega) (by omega))
    go_wp2_with fail
    refine wp_region_reads_call 13 rfl (by kernel_rfl) (by kernel_rfl) (by kernel_rfl) (fun c a d v w h => by cases d <;> exact h) ?_
    simp only [List.take_succ_cons, List.take_zero, List.drop_succ_cons, List.drop_zero]
    iterate 13
      refine wpReads_cons (v := ?_) (Or.inl ⟨by rfl, ?_⟩) ?_
      rotate_left
      · rintro w' ⟨p, rfl⟩
        go_simp
        try with_reducible rfl
      try simp only [Act.put, List.setIfInBounds_toArray, List.set_cons_zero, List.set_cons_succ]
    refine wpReads_nil ?_
    intro K hK
    rw [if_pos (by rfl)]
    go_simp
    refine ht2.out.mono ?_
    rintro e w1 ⟨u, rfl, hu, hbu⟩
    refine hK _ _ (below_after (Nat.le_refl _) hbu) ?_
    have kS := Lib.hid (bs_after h.out hbu)
    have kB := Lib.hid (below_after (Nat.le_refl _) hbu)
    replace hu := Lib.hid hu
    clear hK hbu k1 k2 k3 k4
    go_wp2_with fail
    refine (hl.out _ _ kS.out hu.out).mono ?_
    rintro e w2 ⟨rfl, hb2, hg⟩
    replace hb2 := Lib.hid hb2
    replace hg := Lib.hid hg
    go_wp2_with fail
    go_ret
    exact ⟨rfl, hb2.out, gb_trans (gb_trans hG.out (gb_of_below kB.out)) hg.out⟩
  · have hbf : (b == b') = false := by simpa using hbb
    simp only [hbf]
    clear hbf
    by_cases hC0 : C < 0
    · have hlt := hCn.out.1 hC0
      have hz : (if b' then -((y.natAbs - x.natAbs : Nat) : Int) else ((y.natAbs - x.natAbs : Nat) : Int)) = x + y := by
        have hbo := hb.out
        have hbo' := hb'.out
        by_cases h0 : x < 0 <;> by_cases h1 : y < 0 <;> simp only [h0, h1, decide_true, decide_false] at hbo hbo' <;> subst hbo hbo' <;> simp at hbb ⊢ <;> omega
      have hl : ∀ (W : World) (u : Value), BS W p o → Dg W u (y.natAbs - x.natAbs) → Calls Tryz.prog 159 #[.pointer (some ⟨p, o, none⟩), .bool b', u] W (RetBig (x + y) p o W) := fun W u h1 h2 => by
        have := laid_any p o (y.natAbs - x.natAbs) b' u W h1 h2
        rw [hz] at this
        exact this
      replace hl := Lib.hid hl
      replace hlt := Lib.hid hlt
      clear hz e1 e2 hCn hb hb'
      have ht2 := Lib.hid (less_any v' v y.natAbs x.natAbs W.drew hv'.out hv.out (by omega) (Nat.le_of_lt hlt.out))
      go_wp2_with fail
      refine wp_region_reads_call 13 rfl (by kernel_rfl) (by kernel_rfl) (by kernel_rfl) (fun c a d v w h => by cases d <;> exact h) ?_
      simp only [List.take_succ_cons, List.take_zero, List.drop_succ_cons, List.drop_zero]
      iterate 13
        refine wpReads_cons (v := ?_) (Or.inl ⟨by rfl, ?_⟩) ?_
        rotate_left
        · rintro w' ⟨p, rfl⟩
          go_simp
          try with_reducible rfl
        try simp only [Act.put, List.setIfInBounds_toArray, List.set_cons_zero, List.set_cons_succ]
      refine wpReads_nil ?_
      intro K hK
      rw [if_pos (by rfl)]
      go_simp
      refine ht2.out.mono ?_
      rintro e w1 ⟨u, rfl, hu, hbu⟩
      refine hK _ _ (below_after (Nat.le_refl _) hbu) ?_
      have kS := Lib.hid (bs_after h.out hbu)
      have kB := Lib.hid (below_after (Nat.le_refl _) hbu)
      replace hu := Lib.hid hu
      clear hK hbu k1 k2 k3 k4
      go_wp2_with fail
      refine (hl.out _ _ kS.out hu.out).mono ?_
      rintro e w2 ⟨rfl, hb2, hg⟩
      replace hb2 := Lib.hid hb2
      replace hg := Lib.hid hg
      go_wp2_with fail
      go_ret
      exact ⟨rfl, hb2.out, gb_trans (gb_trans hG.out (gb_of_below kB.out)) hg.out⟩
    · have hge : y.natAbs ≤ x.natAbs := Nat.le_of_not_lt fun h => hC0 (hCn.out.2 h)
      have hz : (if b then -((x.natAbs - y.natAbs : Nat) : Int) else ((x.natAbs - y.natAbs : Nat) : Int)) = x + y := by
        have hbo := hb.out
        have hbo' := hb'.out
        by_cases h0 : x < 0 <;> by_cases h1 : y < 0 <;> simp only [h0, h1, decide_true, decide_false] at hbo hbo' <;> subst hbo hbo' <;> simp at hbb ⊢ <;> omega
      have hl : ∀ (W : World) (u : Value), BS W p o → Dg W u (x.natAbs - y.natAbs) → Calls Tryz.prog 159 #[.pointer (some ⟨p, o, none⟩), .bool b, u] W (RetBig (x + y) p o W) := fun W u h1 h2 => by
        have := laid_any p o (x.natAbs - y.natAbs) b u W h1 h2
        rw [hz] at this
        exact this
      replace hl := Lib.hid hl
      replace hge := Lib.hid hge
      clear hz e1 e2 hCn hb hb'
      have ht2 := Lib.hid (less_any v v' x.natAbs y.natAbs W.drew hv.out hv'.out (by omega) hge.out)
      go_wp2_with fail
      refine wp_region_reads_call 13 rfl (by kernel_rfl) (by kernel_rfl) (by kernel_rfl) (fun c a d v w h => by cases d <;> exact h) ?_
      simp only [List.take_succ_cons, List.take_zero, List.drop_succ_cons, List.drop_zero]
      iterate 13
        refine wpReads_cons (v := ?_) (Or.inl ⟨by rfl, ?_⟩) ?_
        rotate_left
        · rintro w' ⟨p, rfl⟩
          go_simp
          try with_reducible rfl
        try simp only [Act.put, List.setIfInBounds_toArray, List.set_cons_zero, List.set_cons_succ]
      refine wpReads_nil ?_
      intro K hK
      rw [if_pos (by rfl)]
      go_simp
      refine ht2.out.mono ?_
      rintro e w1 ⟨u, rfl, hu, hbu⟩
      refine hK _ _ (below_after (Nat.le_refl _) hbu) ?_
      have kS := Lib.hid (bs_after h.out hbu)
      have kB := Lib.hid (below_after (Nat.le_refl _) hbu)
      replace hu := Lib.hid hu
      clear hK hbu k1 k2 k3 k4
      go_wp2_with fail
      refine (hl.out _ _ kS.out hu.out).mono ?_
      rintro e w2 ⟨rfl, hb2, hg⟩
      replace hb2 := Lib.hid hb2
      replace hg := Lib.hid hg
      go_wp2_with fail
      go_ret
      exact ⟨rfl, hb2.out, gb_trans (gb_trans hG.out (gb_of_below kB.out)) hg.out⟩
end Go.Proofs.YtoaggmegmgdgbaaGreat
