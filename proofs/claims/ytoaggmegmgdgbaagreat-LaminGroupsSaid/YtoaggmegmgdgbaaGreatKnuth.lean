import Derived.Test.YtoaggmegmgdgbaaGreatMem
import Derived.Test.YtoaggmegmgdgbaaGreatWideA
import Derived.Lib.ItoaNum
namespace Go.Proofs.YtoaggmegmgdgbaaGreat
section
variable {B P V R v1 v2 lv u0 u1 u2 lu g r : Nat}
theorem kn_top (hV : V = (v1 * B + v2) * P + lv) (hv2 : v2 < B) (hlv : lv < P) (hR : R = ((u0 * B + u1) * B + u2) * P + lu) (h : R < B * V) (hB : 0 < B) : u0 ≤ v1 := by
  rcases Nat.lt_or_ge v1 u0 with hlt | hge
  · exfalso
    have h1 : (v1 + 1) * B ≤ u0 * B := Nat.mul_le_mul_right _ hlt
    have h2 : V < (v1 + 1) * B * P := by
      have : (v1 * B + v2 + 1) * P ≤ (v1 + 1) * B * P := Nat.mul_le_mul_right _ (by rw [Nat.add_mul, Nat.one_mul]; omega)
      rw [Nat.add_mul, Nat.one_mul] at this
      omega
    have h3 : B * V < B * ((v1 + 1) * B * P) := Nat.mul_lt_mul_of_pos_left h2 hB
    have h4 : B * ((v1 + 1) * B * P) ≤ R := by
      rw [hR]
      have e : B * ((v1 + 1) * B * P) = (v1 + 1) * B * B * P := by ac_rfl
      rw [e]
      have : (v1 + 1) * B * B * P ≤ u0 * B * B * P := Nat.mul_le_mul_right _ (Nat.mul_le_mul_right _ h1)
      have h5 : u0 * B * B * P ≤ ((u0 * B + u1) * B + u2) * P := Nat.mul_le_mul_right _ (by rw [Nat.add_mul]; omega)
      omega
    omega
  · exact hge
theorem kn_start (hV : V = (v1 * B + v2) * P + lv) (hR : R = ((u0 * B + u1) * B + u2) * P + lu) (hu2 : u2 < B) (hlu : lu < P) (hv1 : 0 < v1) (hg : g = (u0 * B + u1) / v1) : R < (g + 1) * V := by
  have h1 : u0 * B + u1 < v1 * (g + 1) := by rw [hg]; exact Nat.lt_mul_div_succ _ hv1
  have h2 : (u0 * B + u1 + 1) * B ≤ v1 * (g + 1) * B := Nat.mul_le_mul_right _ h1
  have h3 : R < (u0 * B + u1 + 1) * B * P := by
    have : ((u0 * B + u1) * B + u2 + 1) * P ≤ (u0 * B + u1 + 1) * B * P := Nat.mul_le_mul_right _ (by rw [Nat.add_mul (u0 * B + u1) 1, Nat.one_mul]; omega)
    rw [Nat.add_mul, Nat.one_mul] at this
    omega
  have h4 : (u0 * B + u1 + 1) * B * P ≤ v1 * (g + 1) * B * P := Nat.mul_le_mul_right _ h2
  have h5 : v1 * (g + 1) * B * P ≤ (g + 1) * V := by
    rw [hV]
    have e : v1 * (g + 1) * B * P = (g + 1) * (v1 * B * P) := by ac_rfl
    rw [e]
    refine Nat.mul_le_mul_left _ ?_
    rw [Nat.add_mul]
    omega
  omega
theorem kn_under (hV : V = (v1 * B + v2) * P + lv) (hR : R = ((u0 * B + u1) * B + u2) * P + lu) (hlu : lu < P) (hg : g * v1 + r = u0 * B + u1) (ht : r * B + u2 < g * v2) : R < g * V := by
  have e : g * V = (g * v1 * B + g * v2) * P + g * lv := by
    rw [hV, Nat.mul_add, ← Nat.mul_assoc, Nat.mul_add, ← Nat.mul_assoc]
  have h1 : (g * v1 * B + (r * B + u2 + 1)) * P ≤ (g * v1 * B + g * v2) * P := Nat.mul_le_mul_right _ (by omega)
  have e2 : g * v1 * B + (r * B + u2 + 1) = (u0 * B + u1) * B + u2 + 1 := by
    rw [← hg, Nat.add_mul]; omega
  rw [e2, Nat.add_mul, Nat.one_mul] at h1
  omega
theorem kn_over (hV : V = (v1 * B + v2) * P + lv) (hR : R = ((u0 * B + u1) * B + u2) * P + lu) (hlv : lv < P) (hv1 : 0 < v1) (hg : g * v1 + r = u0 * B + u1) (hgB : g < B) (ht : g * v2 ≤ r * B + u2) : g * V ≤ R + V := by
  have e : g * V = (g * v1 * B + g * v2) * P + g * lv := by
    rw [hV, Nat.mul_add, ← Nat.mul_assoc, Nat.mul_add, ← Nat.mul_assoc]
  have h1 : (g * v1 * B + g * v2) * P ≤ (g * v1 * B + (r * B + u2)) * P := Nat.mul_le_mul_right _ (by omega)
  have e2 : g * v1 * B + (r * B + u2) = (u0 * B + u1) * B + u2 := by
    rw [← hg, Nat.add_mul]; omega
  rw [e2] at h1
  have h2 : g * lv ≤ B * P := Nat.mul_le_mul (Nat.le_of_lt hgB) (Nat.le_of_lt hlv)
  have h3 : B * P ≤ V := by
    rw [hV, Nat.add_mul]
    have : 1 * B * P ≤ v1 * B * P := Nat.mul_le_mul_right _ (Nat.mul_le_mul_right _ hv1)
    rw [Nat.one_mul] at this
    omega
  omega
theorem kn_break (hu : u0 ≤ v1) (hu1 : u1 < B) (hv2 : v2 < B) (hg : g * v1 + r = u0 * B + u1) (hr : B ≤ r) : g < B ∧ g * v2 ≤ r * B + u2 := by
  have h1 : g < B := by
    rcases Nat.lt_or_ge g B with h | h
    · exact h
    · exfalso
      have h2 : B * v1 ≤ g * v1 := Nat.mul_le_mul_right _ h
      have h3 : u0 * B ≤ v1 * B := Nat.mul_le_mul_right _ hu
      rw [Nat.mul_comm B v1] at h2
      omega
  refine ⟨h1, ?_⟩
  have h2 : g * v2 ≤ B * B := Nat.mul_le_mul (Nat.le_of_lt h1) (Nat.le_of_lt hv2)
  have h3 : B * B ≤ r * B := Nat.mul_le_mul_right _ hr
  omega
end
structure MulInv (u v : List Nat) (g j i m c : Nat) (u' : List Nat) : Prop where
  len : u'.length = u.length
  sm : Sm u'
  hm : m < 4294967296
  hc : c ≤ 1
  value : val u' + 4294967296 ^ j * (g * val (v.take i)) = val u + 4294967296 ^ (i + j) * (m + c)
  same : ∀ t, i + j ≤ t → u'[t]? = u[t]?
  low : ∀ t, t < j → u'[t]? = u[t]?
theorem MulInv.start {u : List Nat} (h : Sm u) (v : List Nat) (g j : Nat) : MulInv u v g j 0 0 0 u := ⟨rfl, h, by omega, by omega, by simp [val], fun _ _ => rfl, fun _ _ => rfl⟩
theorem mul_add_lt {g x m : Nat} (hg : g < 4294967296) (hx : x < 4294967296) (hm : m < 4294967296) : m + g * x < 18446744073709551616 := by
  have : g * x ≤ 4294967295 * 4294967295 := Nat.mul_le_mul (by omega) (by omega)
  omega
theorem MulInv.step {u v : List Nat} {g j i m c : Nat} {u' : List Nat} (h : MulInv u v g j i m c u') (hg : g < 4294967296) {x y d c' : Nat} (hx : v[i]? = some x) (hxs : x < 4294967296) (hy : u'[i + j]? = some y)
    (hc' : c' ≤ 1) (hd : d < 4294967296) (he : d + (m + g * x) % 4294967296 + c = y + 4294967296 * c') :
    MulInv u v g j (i + 1) ((m + g * x) / 4294967296) c' (u'.set (i + j) d) where
  len := by simp [h.len]
  sm := h.sm.set_ hd
  hm := by have := mul_add_lt hg hxs h.hm; omega
  hc := hc'
  value := by
    have e1 := val_set d hy
    have e2 := h.value
    rw [val_take_succ hx]
    have e3 : g * (val (v.take i) + 4294967296 ^ i * x) = g * val (v.take i) + 4294967296 ^ i * (g * x) := by rw [Nat.mul_add]; congr 1; ac_rfl
    have e4 : 4294967296 ^ j * (g * val (v.take i) + 4294967296 ^ i * (g * x)) = 4294967296 ^ j * (g * val (v.take i)) + 4294967296 ^ (i + j) * (g * x) := by
      rw [Nat.mul_add, Nat.add_comm i j, Nat.pow_add]; congr 1; ac_rfl
    rw [e3, e4]
    have e5 : 4294967296 ^ (i + 1 + j) * ((m + g * x) / 4294967296 + c') = 4294967296 ^ (i + j) * (4294967296 * ((m + g * x) / 4294967296) + 4294967296 * c') := by
      rw [show i + 1 + j = i + j + 1 by omega, Nat.pow_succ, Nat.mul_assoc, Nat.mul_add]
    rw [e5]
    have e6 : 4294967296 ^ (i + j) * (d + (m + g * x) % 4294967296 + c) = 4294967296 ^ (i + j) * (y + 4294967296 * c') := by rw [he]
    have e7 : 4294967296 ^ (i + j) * (4294967296 * ((m + g * x) / 4294967296) + (m + g * x) % 4294967296) = 4294967296 ^ (i + j) * (m + g * x) := by rw [Nat.div_add_mod]
    simp only [Nat.mul_add] at e2 e6 e7 ⊢
    omega
  same := fun t ht => by
    rw [List.getElem?_set_ne (by omega)]
    exact h.same t (by omega)
  low := fun t ht => by
    rw [List.getElem?_set_ne (by omega)]
    exact h.low t ht
structure AddInv (u v : List Nat) (j i c : Nat) (u' : List Nat) : Prop where
  len : u'.length = u.length
  sm : Sm u'
  hc : c ≤ 1
  value : val u' + 4294967296 ^ (i + j) * c = val u + 4294967296 ^ j * val (v.take i)
  same : ∀ t, i + j ≤ t → u'[t]? = u[t]?
  low : ∀ t, t < j → u'[t]? = u[t]?
theorem AddInv.start {u : List Nat} (h : Sm u) (v : List Nat) (j : Nat) : AddInv u v j 0 0 u := ⟨rfl, h, by omega, by simp [val], fun _ _ => rfl, fun _ _ => rfl⟩
theorem AddInv.step {u v : List Nat} {j i c : Nat} {u' : List Nat} (h : AddInv u v j i c u') {x y : Nat} (hx : v[i]? = some x) (hxs : x < 4294967296) (hy : u'[i + j]? = some y) :
    AddInv u v j (i + 1) ((c + (y + x)) / 4294967296) (u'.set (i + j) ((c + (y + x)) % 4294967296)) where
  len := by simp [h.len]
  sm := h.sm.set_ (Nat.mod_lt _ (by omega))
  hc := by have := h.hc; have := h.sm.get hy; omega
  value := by
    have e1 := val_set ((c + (y + x)) % 4294967296) hy
    have e2 := h.value
    rw [val_take_succ hx]
    have e4 : 4294967296 ^ j * (val (v.take i) + 4294967296 ^ i * x) = 4294967296 ^ j * val (v.take i) + 4294967296 ^ (i + j) * x := by
      rw [Nat.mul_add, Nat.add_comm i j, Nat.pow_add]; congr 1; ac_rfl
    rw [e4]
    have e5 : 4294967296 ^ (i + 1 + j) * ((c + (y + x)) / 4294967296) = 4294967296 ^ (i + j) * (4294967296 * ((c + (y + x)) / 4294967296)) := by
      rw [show i + 1 + j = i + j + 1 by omega, Nat.pow_succ, Nat.mul_assoc]
    rw [e5]
    have e7 : 4294967296 ^ (i + j) * (4294967296 * ((c + (y + x)) / 4294967296) + (c + (y + x)) % 4294967296) = 4294967296 ^ (i + j) * (c + (y + x)) := by rw [Nat.div_add_mod]
    simp only [Nat.mul_add] at e7 ⊢
    omega
  same := fun t ht => by
    rw [List.getElem?_set_ne (by omega)]
    exact h.same t (by omega)
  low := fun t ht => by
    rw [List.getElem?_set_ne (by omega)]
    exact h.low t ht
structure KInv (A V : Nat) (n L : Nat) (j : Nat) (u q : List Nat) : Prop where
  lu : u.length = L
  lq : q.length + n = L
  su : Sm u
  sq : Sm q
  value : val u + V * (4294967296 ^ j * val (q.drop j)) = A
  small : val (u.drop j) < V
theorem val_eq_of_same {u u' : List Nat} (j : Nat) (h : u'.take j = u.take j) (hl : u'.length = u.length) : val u' + 4294967296 ^ (min j u.length) * val (u.drop j) = val u + 4294967296 ^ (min j u.length) * val (u'.drop j) := by
  have e1 := val_take_drop u j
  have e2 := val_take_drop u' j
  rw [h, hl] at e2
  omega
theorem window {u : List Nat} (hu : Sm u) {V n j : Nat} (hV : V < 4294967296 ^ n) (hn : 2 ≤ n) (hs : val (u.drop (j + 1)) < V) {u0 u1 u2 : Nat} (h0 : u[j + n]? = some u0) (h1 : u[j + n - 1]? = some u1) (h2 : u[j + n - 2]? = some u2) :
    ∃ lu, lu < 4294967296 ^ (n - 2) ∧ val (u.drop j) = ((u0 * 4294967296 + u1) * 4294967296 + u2) * 4294967296 ^ (n - 2) + lu := by
  have hd : val (u.drop (j + n + 1)) = 0 := by
    have e := val_drop (hu.drop (j + 1)) n
    rw [List.drop_drop, Nat.div_eq_of_lt (Nat.lt_trans hs hV)] at e
    rwa [show j + 1 + n = j + n + 1 by omega] at e
  have e0 := val_drop_cons h0
  have e1 := val_drop_cons h1
  have e2 := val_drop_cons h2
  rw [hd] at e0
  rw [show j + n - 1 + 1 = j + n by omega, e0] at e1
  rw [show j + n - 2 + 1 = j + n - 1 by omega, e1] at e2
  have e3 := val_take_drop (u.drop j) (n - 2)
  rw [List.drop_drop, show j + (n - 2) = j + n - 2 by omega, e2] at e3
  have hl := lt_of_getElem? h0
  rw [List.length_drop, Nat.min_eq_left (by omega)] at e3
  have hb := val_lt ((hu.drop j).take (n - 2))
  rw [List.length_take, List.length_drop, Nat.min_eq_left (by omega)] at hb
  refine ⟨val ((u.drop j).take (n - 2)), hb, ?_⟩
  rw [e3, Nat.mul_comm (4294967296 ^ (n - 2))]
  have : u2 + 4294967296 * (u1 + 4294967296 * (u0 + 4294967296 * 0)) = (u0 * 4294967296 + u1) * 4294967296 + u2 := by omega
  rw [this]
  omega
theorem divisor {v : List Nat} (hv : Sm v) {n : Nat} (hn : 2 ≤ n) (hl : v.length = n) {v1 v2 : Nat} (h1 : v[n - 1]? = some v1) (h2 : v[n - 2]? = some v2) :
    ∃ lv, lv < 4294967296 ^ (n - 2) ∧ val v = (v1 * 4294967296 + v2) * 4294967296 ^ (n - 2) + lv := by
  have e1 : val (v.drop (n - 1)) = v1 := by
    have e := val_drop_cons h1
    have e' : v.drop (n - 1 + 1) = [] := List.drop_eq_nil_of_le (by omega)
    rw [e'] at e
    simpa [val] using e
  have e2 := val_drop_cons h2
  rw [show n - 2 + 1 = n - 1 by omega, e1] at e2
  have e3 := val_take_drop v (n - 2)
  rw [e2, Nat.min_eq_left (by omega)] at e3
  have hb := val_lt (hv.take (n - 2))
  rw [List.length_take, Nat.min_eq_left (by omega)] at hb
  refine ⟨val (v.take (n - 2)), hb, ?_⟩
  rw [e3, Nat.mul_comm (4294967296 ^ (n - 2))]
  have : v2 + 4294967296 * v1 = v1 * 4294967296 + v2 := by omega
  rw [this]
  omega
theorem KInv.step {A V n L j : Nat} {u q u' : List Nat} {g : Nat} (h : KInv A V n L (j + 1) u q) (hj : j + 1 + n ≤ L) (hg : g < 4294967296) (hl : u'.length = u.length) (hs : Sm u')
    (hv : val u' + 4294967296 ^ j * (g * V) = val u) (ht : u'.take j = u.take j) (hlt : val (u.drop j) < (g + 1) * V) : KInv A V n L j u' (q.set j g) where
  lu := hl.trans h.lu
  lq := by rw [List.length_set]; exact h.lq
  su := hs
  sq := h.sq.set_ hg
  value := by
    have hjq : j < q.length := by have := h.lq; omega
    have e1 := val_drop_cons (l := q.set j g) (j := j) (x := g) (by simp [hjq])
    have e0 : (q.set j g).drop (j + 1) = q.drop (j + 1) := List.drop_set_of_lt (by omega)
    rw [e1, e0, ← h.value, ← hv, Nat.mul_add, Nat.mul_add, Nat.pow_succ]
    have e2 : V * (4294967296 ^ j * g) = 4294967296 ^ j * (g * V) := by ac_rfl
    have e3 : 4294967296 ^ j * (4294967296 * val (q.drop (j + 1))) = 4294967296 ^ j * 4294967296 * val (q.drop (j + 1)) := by rw [Nat.mul_assoc]
    rw [e2, e3]
    omega
  small := by
    have hjl : j ≤ u.length := by have := h.lu; omega
    have e := val_eq_of_same j ht hl
    rw [Nat.min_eq_left hjl] at e
    have hp : 0 < 4294967296 ^ j := Nat.pow_pos (by omega)
    have e2 : 4294967296 ^ j * (val (u'.drop j) + g * V) = 4294967296 ^ j * val (u.drop j) := by rw [Nat.mul_add]; omega
    have e3 := Nat.eq_of_mul_eq_mul_left hp e2
    rw [Nat.add_mul, Nat.one_mul] at hlt
    omega
theorem take_of_same {u u' : List Nat} {j : Nat} (h : ∀ t, t < j → u'[t]? = u[t]?) : u'.take j = u.take j := by
  apply List.ext_getElem?
  intro t
  rw [List.getElem?_take, List.getElem?_take]
  split
  · exact h t (by assumption)
  · rfl
open Go.RowKit
def RetOver (a b : Nat) (w : World) (e : Ending) (w' : World) : Prop := ∃ q r, e = .returned (.tuple #[q, r]) ∧ Dg w' q (a / b) ∧ Dg w' r (a % b) ∧ Below w.heap.size w w'
set_option maxRecDepth 100000 in
set_option maxHeartbeats 400000 in
theorem over_less (va vb : Value) (a b : Nat) (w : World) (ha : Dg w va a) (hb : Dg w vb b) (h : a < b) :
    Calls Tryz.prog 167 #[va, vb] w (RetOver a b w) := by
  have hc := cmpI_lt h
  have ha := Lib.hid ha
  have hb := Lib.hid hb
  go_enter Tryz.func167, Tryz.ntmps167
  go_wp2_with fail
  refine (cmp_any va vb a b _ ha.out hb.out).mono ?_
  rintro e w1 ⟨rfl, n1, rfl⟩
  go_wp2
  go_ret2
  exact ⟨.slice none 0 0, va, rfl, by rw [Nat.div_eq_of_lt h]; exact Rd.nil_, by rw [Nat.mod_eq_of_lt h]; exact ha.out, below_drewN (Below.refl _ _) _⟩
theorem dg_one {b : Nat} (h : b < 4294967296) (h0 : 0 < b) : dg b = [b] := by
  rw [dg_pos h0, Nat.mod_eq_of_lt h, Nat.div_eq_of_lt h, dg_zero]
theorem one_of_len {b : Nat} (h : (dg b).length = 1) : 0 < b ∧ b < 4294967296 := by
  constructor
  · rcases Nat.eq_zero_or_pos b with h0 | h0
    · subst h0; simp [dg_zero] at h
    · exact h0
  · have := dg_lt b
    rwa [h] at this
set_option maxRecDepth 100000 in
set_option maxHeartbeats 400000 in
theorem over_one (va vb : Value) (a b : Nat) (w : World) (ha : Dg w va a) (hb : Dg w vb b) (h : b ≤ a) (hl : (dg b).length = 1) (hlen : (dg a).length ≤ 1073741824) :
    Calls Tryz.prog 167 #[va, vb] w (RetOver a b w) := by
  obtain ⟨hb0, hbs⟩ := one_of_len hl
  have hc : ¬ cmpI a b < 0 := by
    rcases Nat.lt_or_ge b a with h' | h'
    · rw [cmpI_gt h']; decide
    · rw [cmpI_eq (by omega)]; decide
  have hd := dg_one hbs hb0
  obtain ⟨gb, ob, cb, Lb, rfl, hb1, hb2, hB, hLb⟩ := hb.open_ (by rw [hd]; simp)
  have hcy : w.cell? ⟨gb, ob, none⟩ = some (.int .u32 (b : Int)) := by
    have := hLb 0 b (by rw [hd]; rfl)
    exact hB.cell (by simpa using this)
  have ha := Lib.hid ha
  have hb := Lib.hid hb
  have HB := Lib.hid hd
  rw [hl] at hb1 hb ⊢
  have hc1 : (1 : Int) ≤ (cb : Int) := by omega
  clear hd hLb hb2 hb1 hl
  go_enter Tryz.func167, Tryz.ntmps167
  go_wp2_with fail
  refine (cmp_any va _ a b _ ha.out hb.out).mono ?_
  rintro e w1 ⟨rfl, n1, rfl⟩
  go_wp2_with fail
  refine (short_any va a b _ (ha.out.drewN _) hb0 hbs hlen).mono ?_
  rintro e w2 ⟨q, rfl, hq, hbl⟩
  have hq := Lib.hid hq
  have hbl := Lib.hid hbl
  have hA : Arr (w2.alloc (.cells #[.int .u32 ((a : Int) % (b : Int))] 243)) w2.heap.size .u32 243 [a % b] := Arr.new w2 .u32 243 [a % b]
  have hR : Rd .u32 243 (w2.alloc (.cells #[.int .u32 ((a : Int) % (b : Int))] 243)) (.slice (some ⟨w2.heap.size, 0, none⟩) 1 1) [a % b] := Rd.whole hA (by simp [maxLen])
  have hR := Lib.hid hR
  clear hA
  go_wp2_with fail
  refine (cut_any _ [a % b] _ hR.out (sm_cons (by have := Nat.mod_lt a hb0; omega) sm_nil)).mono ?_
  rintro e w3 ⟨r, rfl, hr, rfl⟩
  have hr := Lib.hid hr
  go_wp2
  go_ret2
  have hr := hr.out
  rw [show val [a % b] = a % b by simp [val]] at hr
  exact ⟨q, r, rfl, hq.out.alloc _, hr, (below_drewN (Below.refl _ w) _).trans (hbl.out.alloc hbl.out.size _)⟩
theorem bitLen_spec {x : Nat} (h : x < 4294967296) (h0 : 0 < x) : 1 ≤ Go.Lib.bitLen x ∧ Go.Lib.bitLen x ≤ 32 ∧ 2 ^ (Go.Lib.bitLen x - 1) ≤ x ∧ x < 2 ^ Go.Lib.bitLen x := by
  have h1 := Go.Lib.bitLenAux_bounds 64 x (by omega) (by omega)
  have h2 := Go.Lib.bitLen_le x 32 (by omega) (by omega)
  exact ⟨h1.1, h2, h1.2.1, h1.2.2⟩
theorem norm_spec {x : Nat} (h : x < 4294967296) (h0 : 0 < x) : ∃ s : Nat, s < 32 ∧ (32 - (Go.Lib.bitLen x : Int)) = (s : Int) ∧ 2147483648 ≤ x * 2 ^ s ∧ x * 2 ^ s < 4294967296 := by
  obtain ⟨h1, h2, h3, h4⟩ := bitLen_spec h h0
  generalize Go.Lib.bitLen x = b at *
  refine ⟨32 - b, by omega, by omega, ?_, ?_⟩
  · have e : 2 ^ (b - 1) * 2 ^ (32 - b) = 2147483648 := by rw [← Nat.pow_add, show b - 1 + (32 - b) = 31 by omega]
    have := Nat.mul_le_mul_right (2 ^ (32 - b)) h3
    omega
  · have e : 2 ^ b * 2 ^ (32 - b) = 4294967296 := by rw [← Nat.pow_add, show b + (32 - b) = 32 by omega]
    have := Nat.mul_lt_mul_of_pos_right h4 (Nat.two_pow_pos (32 - b))
    omega
theorem norm_len {b s x n : Nat} (hn : (dg b).length = n) (hx : (dg b)[n - 1]? = some x) (h1 : 2147483648 ≤ x * 2 ^ s) (h2 : x * 2 ^ s < 4294967296) (hn0 : 0 < n) :
    (dg (b * 2 ^ s)).length = n ∧ 2147483648 * 4294967296 ^ (n - 1) ≤ b * 2 ^ s ∧ b * 2 ^ s < 4294967296 ^ n := by
  have e1 := val_take_drop (dg b) (n - 1)
  have e2 : val ((dg b).drop (n - 1)) = x := by
    have e := val_drop_cons hx
    have e' : (dg b).drop (n - 1 + 1) = [] := List.drop_eq_nil_of_le (by omega)
    rw [e'] at e
    simpa [val] using e
  rw [e2, val_dg, hn, Nat.min_eq_left (by omega)] at e1
  have hb := val_lt ((sm_dg b).take (n - 1))
  rw [List.length_take, hn, Nat.min_eq_left (by omega)] at hb
  have hp : 0 < 4294967296 ^ (n - 1) := Nat.pow_pos (by omega)
  have g1 : 2147483648 * 4294967296 ^ (n - 1) ≤ b * 2 ^ s := by
    have : 4294967296 ^ (n - 1) * x * 2 ^ s ≤ b * 2 ^ s := Nat.mul_le_mul_right _ (by omega)
    rw [Nat.mul_assoc] at this
    have h3 : 4294967296 ^ (n - 1) * 2147483648 ≤ 4294967296 ^ (n - 1) * (x * 2 ^ s) := Nat.mul_le_mul_left _ h1
    rw [Nat.mul_comm 2147483648]
    omega
  have g2 : b * 2 ^ s < 4294967296 ^ n := by
    have hs : 2 ^ s ≤ 4294967296 := by
      rcases Nat.eq_zero_or_pos x with h0 | h0
      · subst h0; omega
      · have : 1 * 2 ^ s ≤ x * 2 ^ s := Nat.mul_le_mul_right _ h0
        omega
    have h4 : b * 2 ^ s < 4294967296 ^ (n - 1) * (x + 1) * 2 ^ s := Nat.mul_lt_mul_of_pos_right (by rw [Nat.mul_add]; omega) (Nat.two_pow_pos s)
    have h5 : (x + 1) * 2 ^ s ≤ 4294967296 := by
      -- x * 2^s is a multiple of 2^s below 2^32, itself a multiple of 2^s
      have hs32 : s ≤ 32 := by
        rcases Nat.lt_or_ge 32 s with h | h
        · have : 2 ^ 33 ≤ 2 ^ s := Nat.pow_le_pow_right (by omega) h
          omega
        · exact h
      have e : 2 ^ s * 2 ^ (32 - s) = 4294967296 := by rw [← Nat.pow_add, show s + (32 - s) = 32 by omega]
      have h6 : x < 2 ^ (32 - s) := by
        rw [← e, Nat.mul_comm x] at h2
        exact Nat.lt_of_mul_lt_mul_left h2
      have : (x + 1) * 2 ^ s ≤ 2 ^ (32 - s) * 2 ^ s := Nat.mul_le_mul_right _ h6
      rw [Nat.mul_comm (2 ^ (32 - s)), e] at this
      exact this
    have h6 : 4294967296 ^ (n - 1) * ((x + 1) * 2 ^ s) ≤ 4294967296 ^ (n - 1) * 4294967296 := Nat.mul_le_mul_left _ h5
    rw [← Nat.mul_assoc] at h6
    have e3 : 4294967296 ^ (n - 1) * 4294967296 = 4294967296 ^ n := by rw [← Nat.pow_succ, show (n - 1).succ = n by omega]
    omega
  refine ⟨?_, g1, g2⟩
  have k1 := dg_len_le_of_lt g2
  rcases Nat.lt_or_ge (dg (b * 2 ^ s)).length n with hlt | hge
  · have k2 := dg_lt (b * 2 ^ s)
    have k3 : 4294967296 ^ (dg (b * 2 ^ s)).length ≤ 4294967296 ^ (n - 1) := Nat.pow_le_pow_right (by omega) (by omega)
    omega
  · omega
end Go.Proofs.YtoaggmegmgdgbaaGreat
