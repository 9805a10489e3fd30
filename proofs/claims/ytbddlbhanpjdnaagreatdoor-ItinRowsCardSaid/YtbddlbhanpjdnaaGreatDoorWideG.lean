/- wide.digits: plus, less, times. · A region that draws its order: all but its last operations only read, or call what leaves a world of a class; the last ones come in one forced order, and may write: one walk in the order of the text. · Package wide: Neg, Mul, Add, Sub, Quo, Mod, Uint64. -/
import Derived.Test.YtbddlbhanpjdnaaGreatDoorBig
import Derived.StillTail
import Derived.OrdersHeld
import Derived.Lib.QuietBelow
import Derived.Deep.CutBlock
namespace Go.Proofs.YtbddlbhanpjdnaaGreatDoor
open Go.RowKit

/-- After k digits of a sum: what is written, and the carry. -/
structure PlInv (la lb : List Nat) (k c : Nat) (O : List Nat) : Prop where
  len : O.length = la.length + 1
  sm : Sm O
  value : val (O.take k) + 4294967296 ^ k * c = val (la.take k) + val (lb.take k)
  carry : c ≤ 1
theorem PlInv.start (la lb : List Nat) : PlInv la lb 0 0 (List.replicate (la.length + 1) 0) := ⟨by simp, sm_replicate _, by simp [val], by omega⟩
theorem val_take_set {O : List Nat} {k d : Nat} (hk : k < O.length) : val ((O.set k d).take (k + 1)) = val (O.take k) + 4294967296 ^ k * d := by
  have e1 := val_take_succ (l := O.set k d) (j := k) (x := d) (by rw [List.getElem?_set_self hk])
  rw [List.take_set_of_le (Nat.le_refl _)] at e1
  exact e1
theorem split_mul (B S T : Nat) : B * (S % 4294967296) + B * 4294967296 * (S / 4294967296) + T = B * S + T := by
  rw [Nat.mul_assoc, ← Nat.mul_add, Nat.mod_add_div]
theorem PlInv.step {la lb : List Nat} {k c x y : Nat} {O : List Nat} (h : PlInv la lb k c O) (hx : la[k]? = some x) (hy : lb[k]? = some y ∨ (lb.length ≤ k ∧ y = 0)) (hxs : x < 4294967296) (hys : y < 4294967296) :
    PlInv la lb (k + 1) ((c + x + y) / 4294967296) (O.set k ((c + x + y) % 4294967296)) := by
  have hk := lt_of_getElem? hx
  have hc := h.carry
  have ev := h.value
  have e2 := val_take_succ hx
  have e3 : val (lb.take (k + 1)) = val (lb.take k) + 4294967296 ^ k * y := by
    rcases hy with hy | ⟨hy, rfl⟩
    · exact val_take_succ hy
    · rw [List.take_of_length_le (by omega), List.take_of_length_le hy]; simp
  refine ⟨by simp [h.len], h.sm.set_ (Nat.mod_lt _ (by omega)), ?_, by omega⟩
  rw [val_take_set (by rw [h.len]; omega), e2, e3, Nat.pow_succ]
  generalize 4294967296 ^ k = B at *
  have e4 := split_mul B (c + x + y) (val (O.take k))
  have e5 : B * (c + x + y) = B * c + B * x + B * y := by rw [Nat.mul_add, Nat.mul_add]
  omega
theorem PlInv.done {la lb : List Nat} {c : Nat} {O : List Nat} (h : PlInv la lb la.length c O) (hl : lb.length ≤ la.length) : Sm (O.set la.length c) ∧ (O.set la.length c).length = la.length + 1 ∧ val (O.set la.length c) = val la + val lb := by
  refine ⟨h.sm.set_ (by have := h.carry; omega), by simp [h.len], ?_⟩
  have e1 := val_take_set (O := O) (k := la.length) (d := c) (by rw [h.len]; omega)
  rw [List.take_of_length_le (by simp [h.len])] at e1
  rw [e1, h.value, List.take_length, List.take_of_length_le hl]

/-- After k digits of a difference: what is written, and the borrow. -/
structure LsInv (la lb : List Nat) (k c : Nat) (O : List Nat) : Prop where
  len : O.length = la.length
  sm : Sm O
  value : val (O.take k) + val (lb.take k) = val (la.take k) + 4294967296 ^ k * c
  carry : c ≤ 1
theorem LsInv.start (la lb : List Nat) : LsInv la lb 0 0 (List.replicate la.length 0) := ⟨by simp, sm_replicate _, by simp [val], by omega⟩
theorem LsInv.step {la lb : List Nat} {k c x y d c' : Nat} {O : List Nat} (h : LsInv la lb k c O) (hx : la[k]? = some x) (hy : lb[k]? = some y ∨ (lb.length ≤ k ∧ y = 0)) (hd : d < 4294967296) (hc' : c' ≤ 1) (he : d + c + y = x + 4294967296 * c') :
    LsInv la lb (k + 1) c' (O.set k d) := by
  have hk := lt_of_getElem? hx
  have ev := h.value
  have e2 := val_take_succ hx
  have e3 : val (lb.take (k + 1)) = val (lb.take k) + 4294967296 ^ k * y := by
    rcases hy with hy | ⟨hy, rfl⟩
    · exact val_take_succ hy
    · rw [List.take_of_length_le (by omega), List.take_of_length_le hy]; simp
  refine ⟨by simp [h.len], h.sm.set_ hd, ?_, hc'⟩
  rw [val_take_set (by rw [h.len]; omega), e2, e3, Nat.pow_succ]
  generalize 4294967296 ^ k = B at *
  have e4 : B * (d + c + y) = B * (x + 4294967296 * c') := by rw [he]
  rw [Nat.mul_add, Nat.mul_add, Nat.mul_add, ← Nat.mul_assoc] at e4
  omega
theorem LsInv.done {la lb : List Nat} {c : Nat} {O : List Nat} (h : LsInv la lb la.length c O) (hl : lb.length ≤ la.length) (hle : val lb ≤ val la) : val O = val la - val lb := by
  have ev := h.value
  rw [List.take_length, List.take_of_length_le hl, List.take_of_length_le (by rw [h.len]; exact Nat.le_refl _)] at ev
  have hlt := val_lt h.sm
  rw [h.len] at hlt
  have hc := h.carry
  rcases Nat.eq_zero_or_pos c with h0 | h0
  · rw [h0] at ev; omega
  · rw [show c = 1 by omega, Nat.mul_one] at ev
    omega

/-- Between the rounds of a product's row. -/
structure TmInv (la lb : List Nat) (i : Nat) (O : List Nat) : Prop where
  len : O.length = la.length + lb.length
  sm : Sm O
  value : val O = val (la.take i) * val lb
  zero : ∀ j, i + lb.length ≤ j → j < O.length → O[j]? = some 0
theorem TmInv.start (la lb : List Nat) : TmInv la lb 0 (List.replicate (la.length + lb.length) 0) :=
  ⟨by simp, sm_replicate _, by rw [val_replicate]; simp [val], fun j _ h => by rw [List.getElem?_replicate]; simp at h; simp [h]⟩
/-- Inside such a row. -/
structure TrInv (O0 lb : List Nat) (i x k c : Nat) (O : List Nat) : Prop where
  len : O.length = O0.length
  sm : Sm O
  value : val O + 4294967296 ^ (i + k) * c = val O0 + 4294967296 ^ i * (x * val (lb.take k))
  zero : ∀ j, i + lb.length ≤ j → O[j]? = O0[j]?
  carry : c < 4294967296
theorem TrInv.start {O0 lb : List Nat} {i x : Nat} (h : Sm O0) : TrInv O0 lb i x 0 0 O0 := ⟨rfl, h, by simp [val], fun _ _ => rfl, by omega⟩
theorem mul_bound {c x y z : Nat} (hc : c < 4294967296) (hx : x < 4294967296) (hy : y < 4294967296) (hz : z < 4294967296) : x * y ≤ 18446744065119617025 ∧ x * y + z ≤ 18446744069414584320 ∧ c + (x * y + z) ≤ 18446744073709551615 := by
  have := Nat.mul_le_mul (show x ≤ 4294967295 by omega) (show y ≤ 4294967295 by omega)
  omega
theorem TrInv.step {O0 lb : List Nat} {i x k c y z : Nat} {O : List Nat} (h : TrInv O0 lb i x k c O) (hy : lb[k]? = some y) (hz : O[i + k]? = some z) (hx : x < 4294967296) (hys : y < 4294967296) :
    TrInv O0 lb i x (k + 1) ((c + (x * y + z)) / 4294967296) (O.set (i + k) ((c + (x * y + z)) % 4294967296)) := by
  have hk := lt_of_getElem? hy
  have hzs : z < 4294967296 := h.sm.get hz
  have hb := (mul_bound h.carry hx hys hzs).2.2
  refine ⟨by simp [h.len], h.sm.set_ (Nat.mod_lt _ (by omega)), ?_, fun j hj => ?_, by omega⟩
  · have e1 := val_set ((c + (x * y + z)) % 4294967296) hz
    have e2 := val_take_succ hy
    have ev := h.value
    rw [e2, ← Nat.add_assoc i k 1, Nat.pow_succ]
    rw [Nat.mul_add x, Nat.mul_add (4294967296 ^ i), Nat.mul_left_comm x (4294967296 ^ k) y, ← Nat.mul_assoc (4294967296 ^ i) (4294967296 ^ k), ← Nat.pow_add]
    generalize 4294967296 ^ (i + k) = B at *
    have e4 := split_mul B (c + (x * y + z)) 0
    have e5 : B * (c + (x * y + z)) = B * c + B * (x * y) + B * z := by rw [Nat.mul_add, Nat.mul_add]; omega
    omega
  · rw [List.getElem?_set_ne (by omega)]
    exact h.zero j hj
theorem TmInv.step {la lb : List Nat} {i x c : Nat} {O0 O : List Nat} (h : TmInv la lb i O0) (hx : la[i]? = some x) (hr : TrInv O0 lb i x lb.length c O) : TmInv la lb (i + 1) (O.set (i + lb.length) c) := by
  have hi := lt_of_getElem? hx
  have hz : O[i + lb.length]? = some 0 := by rw [hr.zero _ (Nat.le_refl _)]; exact h.zero _ (Nat.le_refl _) (by rw [h.len]; omega)
  refine ⟨by simp [hr.len, h.len], hr.sm.set_ hr.carry, ?_, fun j hj hlt => ?_⟩
  · have e1 := val_set c hz
    have e2 := val_take_succ hx
    have ev := hr.value
    rw [List.take_length] at ev
    rw [e2, Nat.add_mul, ← h.value, Nat.mul_assoc]
    omega
  · rw [List.getElem?_set_ne (by omega), hr.zero _ (by omega)]
    exact h.zero j (by omega) (by simp [hr.len] at hlt; exact hlt)

end Go.Proofs.YtbddlbhanpjdnaaGreatDoor

namespace Go.Proofs.YtbddlbhanpjdnaaGreatDoor
open Go.RowKit Go.Sort

section
variable {P : Program} {ops : Array Oper} {md : Region.Mode} {C : World → Prop}

/-- The head of such a region, in whatever order the tape picks. -/
def headAny (P : Program) (md : Region.Mode) (ops : Array Oper) (C : World → Prop) (n : Nat) (L : Array Bool → Act → Prop) : Nat → Array Bool → Act → Prop
  | 0, listed, a => L listed a
  | f + 1, listed, a => Region.ready md ops listed ≠ [] ∧ ∀ i, i ∈ Region.ready md ops listed → i < n ∧ qOp P ops C i (headAny P md ops C n L f (listed.setIfInBounds i true)) a

theorem any_of_headAny {n g : Nat} {L : Array Bool → Act → Prop} {Q : Exit → Act → World → Prop} (hL : ∀ listed a w, C w → L listed a → wpAny P md ops Q g listed a w) (f : Nat) :
    ∀ (listed : Array Bool) (a : Act) (w : World), C w → headAny P md ops C n L f listed a → wpAny P md ops Q (f + g) listed a w := by
  induction f with
  | zero => intro listed a w hw h; rw [Nat.zero_add]; exact hL _ _ _ hw h
  | succ f ih =>
    intro listed a w hw h
    rw [Nat.add_right_comm]
    exact ⟨fun h0 => (h.1 h0).elim, fun i hi => wpOp_of_qOp hw (fun a' w' hw' h' => ih _ a' w' hw' h') (h.2 i hi).2⟩

/-- What may come first may be taken first. -/
theorem headAny_take {n i : Nat} {oi : Oper} {v : Value} {L : Array Bool → Act → Prop} (hi : ops[i]? = some oi) (hsel : ∀ (j : Nat) (o : Oper) cs b, ops[j]? = some o → o.op ≠ .select cs b)
    (hs : Region.sinkB md ops n = true) (hc : Region.chainB md ops n = true) (hn : n < ops.size) (hin : i < n) (hdone : ∀ listed a, L listed a → ∀ j, j ∈ Region.ready md ops listed → n ≤ j) (f : Nat) :
    ∀ (listed : Array Bool) (a : Act), HeadInv md ops n listed →
      (∀ j oj, ops[j]? = some oj → j ≠ i → listed.getD j true = false → (∀ e ∈ oj.after, Region.binds md e = true → e.on ≠ i) → oi.apart ops oj = true) →
      i ∈ Region.ready md ops listed → YieldsIn P ops C oi v a → headAny P md ops C n L f (listed.setIfInBounds i true) (a.put oi.dst v) → headAny P md ops C n L (f + 1) listed a := by
  induction f with
  | zero =>
    intro listed a inv _ hr hy H
    have hun := (mem_ready.1 hr).1
    refine ⟨fun h => (by rw [h] at hr; cases hr), fun j hj => ?_⟩
    have hjn : j < n := Nat.lt_of_not_le fun hle => tail_waits hs hc hn inv _ i rfl hin hun j hle hj
    refine ⟨hjn, ?_⟩
    by_cases hji : j = i
    · rw [hji]; exact hy.qOp hi H
    · exact absurd (hdone _ _ H j (ready_mono hj hji)) (Nat.not_le_of_lt hjn)
  | succ f ih =>
    intro listed a inv hfree hr hy H
    have hun := (mem_ready.1 hr).1
    refine ⟨fun h => (by rw [h] at hr; cases hr), fun j hj => ?_⟩
    have hjn : j < n := Nat.lt_of_not_le fun hle => tail_waits hs hc hn inv _ i rfl hin hun j hle hj
    refine ⟨hjn, ?_⟩
    by_cases hji : j = i
    · rw [hji]; exact hy.qOp hi H
    obtain ⟨hjun, oj, hoj, hall⟩ := mem_ready.1 hj
    have hnot : ∀ e ∈ oj.after, Region.binds md e = true → e.on ≠ i := fun e he hb heq => by
      have h1 := hall e he hb
      rw [heq, getD_both hun] at h1
      cases h1
    refine qOp_mono (fun a' h3 => ih (listed.setIfInBounds j true) a' (inv.set hj hjn) (fun k ok hk hki hku hno => ?_) (ready_mono hr (Ne.symm hji)) h3.1 ?_)
      (qOp_put hoj (hfree j oj hoj hji hjun hnot) (fun cs b => hsel i oi cs b hi) (fun cs b => hsel j oj cs b hoj) hy ((H.2 j (ready_mono hj hji)).2))
    · refine hfree k ok hk hki ?_ hno
      by_cases hjk : j = k
      · rw [← hjk]; exact hjun
      · rwa [getD_set_ne true hjk] at hku
    · rw [Array.setIfInBounds_comm _ _ hji]
      exact h3.2

theorem headAny_of_text {n g : Nat} {T : Act → Prop} (hsel : Region.noSelect ops = true) (hs : Region.sinkB md ops n = true) (hc : Region.chainB md ops n = true) (hn : n < ops.size) :
    ∀ (l : List Oper) (k : Nat) (listed : Array Bool) (a : Act), (∀ j, j < l.length → l[j]? = ops[k + j]?) → k + l.length = n → HeadInv md ops n listed → Region.lexHead md ops g l.length k listed = true →
      wpQuiet P ops C T l a → headAny P md ops C n (fun listed' a' => Region.seqB md ops g n listed' = true ∧ T a') l.length listed a := by
  intro l
  induction l with
  | nil =>
    intro k listed a _ hk _ hB h
    have hkn : k = n := by simpa using hk
    rw [hkn] at hB
    exact ⟨by simpa [Region.lexHead] using hB, h⟩
  | cons o l ih =>
    intro k listed a hl hk inv hB h
    have h0 : ops[k]? = some o := by simpa using (hl 0 (by simp)).symm
    simp only [List.length_cons, Region.lexHead, Bool.and_eq_true] at hB
    obtain ⟨⟨hr, hf⟩, hB'⟩ := hB
    simp only [List.length_cons] at hk
    have hr' : k ∈ Region.ready md ops listed := by simpa using hr
    have hq : qOp P ops C k (wpQuiet P ops C T l) a := by unfold qOp; simp only [h0]; exact h
    obtain ⟨v, hy, hK⟩ := yieldsIn_of_qOp h0 hq
    refine headAny_take h0 (Region.noSelect_spec hsel) hs hc hn (by omega) (fun _ _ hL => seqB_ready hL.1) l.length listed a inv (Region.free_spec h0 hf) hr' hy ?_
    exact ih (k + 1) _ _ (fun j hj => by have := hl (j + 1) (by simp; omega); simpa [Nat.add_assoc, Nat.add_comm 1 j] using this) (by omega) (inv.set hr' (by omega)) hB' hK

/-- THE LAW. -/
theorem wp_region_quiet_tail {id : Nat} {Q : Exit → Act → World → Prop} {a : Act} {w : World} {l : List Oper} (n : Nat) (hm : P.follows .mixedOrders = true) (hB : Region.lexTailB .any l.toArray n = true) (hC : C { w with drawn := w.drawn + 1 })
    (h : wpQuiet P l.toArray C (fun a' => ∀ w', C w' → wpList P l.toArray Q (l.drop n) a' w') (l.take n) a) : (Code.region id l.toArray true).wp P Q a w := by
  simp only [Region.lexTailB, Bool.and_eq_true, decide_eq_true_eq] at hB
  obtain ⟨⟨⟨⟨hsel, hn⟩, hs⟩, hc⟩, hlex⟩ := hB
  have hnl : n < l.length := by simpa using hn
  have htl : (l.take n).length = n := by rw [List.length_take]; omega
  have hdl : (l.drop n).length = l.toArray.size - n := by simp
  have inv0 : HeadInv .any l.toArray n (Array.replicate l.toArray.size false) :=
    ⟨by simp, fun j oj _ hl => (by rw [getD_replicate_false] at hl; cases hl), fun t _ ht => getD_in (by simpa using ht) (getD_replicate_false _ _)⟩
  have H := headAny_of_text (md := .any) (g := l.toArray.size - n) hsel hs hc hn (l.take n) 0 _ a (fun j hj => by
    rw [htl] at hj
    simp [hj]) (by simpa using htl) inv0 (by rw [htl]; exact hlex) h
  refine wp_region_any hm ?_
  have key := any_of_headAny (Q := Q) (g := l.toArray.size - n) (fun listed a' w' hw' hL => by
    have := wpAny_of_seq (md := .any) (Q' := Q) (l.drop n) n listed a' w' (fun j => by simp [List.getElem?_drop]) (by rw [hdl]; exact hL.1) (hL.2 w' hw')
    rwa [hdl] at this) _ _ _ _ hC H
  rw [htl, show n + (l.toArray.size - n) = l.toArray.size by omega] at key
  exact key
end

/-- .. at the class 'nothing old has turned'. -/
theorem wp_region_tail_below {P : Program} {id : Nat} {Q : Exit → Act → World → Prop} {a : Act} {w : World} {l : List Oper} (n : Nat) (hm : P.follows .mixedOrders = true) (hB : Region.lexTailB .any l.toArray n = true)
    (h : wpQuiet P l.toArray (fun w' => ∃ p : Regrown, w' = grow (redrawn w p.d) p.os) (fun a' => ∀ w', Below w.heap.size w w' → wpList P l.toArray Q (l.drop n) a' w') (l.take n) a) : (Code.region id l.toArray true).wp P Q a w := by
  refine wp_region_quiet_tail (C := fun w' => ∃ p : Regrown, w' = grow (redrawn w p.d) p.os) n hm hB ⟨⟨w.drawn + 1, #[]⟩, by rw [grow_empty]; rfl⟩ ?_
  have mono : ∀ (l' : List Oper) (a : Act) {T T' : Act → Prop}, (∀ a, T a → T' a) → wpQuiet P l.toArray (fun w' => ∃ p : Regrown, w' = grow (redrawn w p.d) p.os) T l' a → wpQuiet P l.toArray (fun w' => ∃ p : Regrown, w' = grow (redrawn w p.d) p.os) T' l' a := by
    intro l'
    induction l' with
    | nil => intro a T T' hT h; exact hT _ h
    | cons o l' ih =>
      intro a T T' hT h
      unfold wpQuiet at h ⊢
      split
      · rename_i hw
        rw [if_pos hw] at h
        exact Oper.quiet_mono (fun a' h' => ih a' hT h') h
      · rename_i hw
        rw [if_neg hw] at h
        exact ih _ hT h
  refine mono _ _ (fun a' h' w' hw' => h' w' ?_) h
  obtain ⟨p, rfl⟩ := hw'
  exact below_regrown w p.d p.os

/-! ## Reads in whatever order, one call that makes memory, and a tail in one forced order that may write -/
section
variable {P : Program} {ops : Array Oper} {md : Region.Mode} {S : World → Prop} {Q : Exit → Act → World → Prop}

def heldAny (P : Program) (md : Region.Mode) (ops : Array Oper) (Q : Exit → Act → World → Prop) (S : World → Prop) (n : Nat) (L : Array Bool → Act → World → Prop) : Nat → Array Bool → Act → World → Prop
  | 0, listed, a, w => L listed a w
  | f + 1, listed, a, w => Region.ready md ops listed ≠ [] ∧ ∀ i, i ∈ Region.ready md ops listed → i < n ∧ wpOp P ops Q i (fun a' w' => S w' ∧ heldAny P md ops Q S n L f (listed.setIfInBounds i true) a' w') a w

theorem any_of_heldAny {n g : Nat} {L : Array Bool → Act → World → Prop} (hL : ∀ listed a w, L listed a w → wpAny P md ops Q g listed a w) (f : Nat) :
    ∀ (listed : Array Bool) (a : Act) (w : World), heldAny P md ops Q S n L f listed a w → wpAny P md ops Q (f + g) listed a w := by
  induction f with
  | zero => intro listed a w h; rw [Nat.zero_add]; exact hL _ _ _ h
  | succ f ih =>
    intro listed a w h
    rw [Nat.add_right_comm]
    exact ⟨fun h0 => (h.1 h0).elim, fun i hi => wpOp_mono (fun a' w' h' => ih _ a' w' h'.2) (h.2 i hi).2⟩

theorem heldAny_take {n i : Nat} {oi : Oper} {v : Value} {L : Array Bool → Act → World → Prop} (hi : ops[i]? = some oi) (hsel : ∀ (j : Nat) (o : Oper) cs b, ops[j]? = some o → o.op ≠ .select cs b)
    (hQ : ∀ c a w, Q (.panic c) (a.put oi.dst v) w → Q (.panic c) a w)
    (hs : Region.sinkB md ops n = true) (hc : Region.chainB md ops n = true) (hn : n < ops.size) (hin : i < n) (hdone : ∀ listed a w, L listed a w → ∀ j, j ∈ Region.ready md ops listed → n ≤ j) (f : Nat) :
    ∀ (listed : Array Bool) (a : Act) (w : World), HeadInv md ops n listed →
      (∀ j oj, ops[j]? = some oj → j ≠ i → listed.getD j true = false → (∀ e ∈ oj.after, Region.binds md e = true → e.on ≠ i) → oi.apart ops oj = true) →
      i ∈ Region.ready md ops listed → YieldsIf P ops S oi v a → S w → heldAny P md ops Q S n L f (listed.setIfInBounds i true) (a.put oi.dst v) w → heldAny P md ops Q S n L (f + 1) listed a w := by
  induction f with
  | zero =>
    intro listed a w inv _ hr hy hS H
    have hun := (mem_ready.1 hr).1
    refine ⟨fun h => (by rw [h] at hr; cases hr), fun j hj => ?_⟩
    have hjn : j < n := Nat.lt_of_not_le fun hle => tail_waits hs hc hn inv _ i rfl hin hun j hle hj
    refine ⟨hjn, ?_⟩
    by_cases hji : j = i
    · rw [hji]; exact hy.wpOp hi hS ⟨hS, H⟩
    · exact absurd (hdone _ _ _ H j (ready_mono hj hji)) (Nat.not_le_of_lt hjn)
  | succ f ih =>
    intro listed a w inv hfree hr hy hS H
    have hun := (mem_ready.1 hr).1
    refine ⟨fun h => (by rw [h] at hr; cases hr), fun j hj => ?_⟩
    have hjn : j < n := Nat.lt_of_not_le fun hle => tail_waits hs hc hn inv _ i rfl hin hun j hle hj
    refine ⟨hjn, ?_⟩
    by_cases hji : j = i
    · rw [hji]; exact hy.wpOp hi hS ⟨hS, H⟩
    obtain ⟨hjun, oj, hoj, hall⟩ := mem_ready.1 hj
    have hnot : ∀ e ∈ oj.after, Region.binds md e = true → e.on ≠ i := fun e he hb heq => by
      have h1 := hall e he hb
      rw [heq, getD_both hun] at h1
      cases h1
    refine wpOp_mono (fun a' w' h3 => ⟨h3.2.1, ih (listed.setIfInBounds j true) a' w' (inv.set hj hjn) (fun k ok hk hki hku hno => ?_) (ready_mono hr (Ne.symm hji)) h3.1 h3.2.1 ?_⟩)
      (wpOp_putIf hoj (hfree j oj hoj hji hjun hnot) (fun cs b => hsel i oi cs b hi) (fun cs b => hsel j oj cs b hoj) hQ hy ((H.2 j (ready_mono hj hji)).2))
    · refine hfree k ok hk hki ?_ hno
      by_cases hjk : j = k
      · rw [← hjk]; exact hjun
      · rwa [getD_set_ne true hjk] at hku
    · rw [Array.setIfInBounds_comm _ _ hji]
      exact h3.2.2

/-- The reads, in the order of the text. -/
def wpReads (P : Program) (ops : Array Oper) (S : World → Prop) (T : Act → Prop) : List Oper → Act → Prop
  | [], a => T a
  | o :: rest, a => ∃ v, YieldsIf P ops S o v a ∧ wpReads P ops S T rest (a.put o.dst v)
theorem wpReads_nil {T : Act → Prop} {a : Act} (h : T a) : wpReads P ops S T [] a := h
theorem wpReads_cons {T : Act → Prop} {a : Act} {o : Oper} {rest : List Oper} {v : Value} (hy : YieldsIf P ops S o v a) (h : wpReads P ops S T rest (a.put o.dst v)) : wpReads P ops S T (o :: rest) a := ⟨v, hy, h⟩

/-- Behind the reads the one call alone may come. -/
def onlyB (md : Region.Mode) (ops : Array Oper) : Nat → Nat → Array Bool → Bool
  | 0, k, listed => decide (Region.ready md ops listed = [k])
  | f + 1, k, listed => onlyB md ops f (k + 1) (listed.setIfInBounds k true)

theorem heldAny_of_reads {n g m : Nat} {w : World} {T : Act → Prop} {L : Array Bool → Act → World → Prop} (hQ : ∀ c a d v w, Q (.panic c) (Act.put a d v) w → Q (.panic c) a w)
    (hsel : Region.noSelect ops = true) (hs : Region.sinkB md ops n = true) (hc : Region.chainB md ops n = true) (hn : n < ops.size) (hmn : n = m + 1) (hS : S w)
    (hdone : ∀ listed a w, L listed a w → ∀ j, j ∈ Region.ready md ops listed → n ≤ j)
    (hT : ∀ listed a, Region.lexHead md ops g 1 m listed = true → T a → wpOp P ops Q m (fun a' w' => S w' ∧ L (listed.setIfInBounds m true) a' w') a w) :
    ∀ (l : List Oper) (k : Nat) (listed : Array Bool) (a : Act), (∀ j, j < l.length → l[j]? = ops[k + j]?) → k + l.length = m → HeadInv md ops n listed → Region.lexHead md ops g (l.length + 1) k listed = true → onlyB md ops l.length k listed = true →
      wpReads P ops S T l a → heldAny P md ops Q S n L (l.length + 1) listed a w := by
  intro l
  induction l with
  | nil =>
    intro k listed a _ hk _ hB hO h
    have hkm : k = m := by simpa using hk
    rw [hkm] at hB hO
    simp only [List.length_nil, onlyB, decide_eq_true_eq] at hO
    refine ⟨fun h0 => (by rw [hO] at h0; cases h0), fun i hi => ?_⟩
    rw [hO] at hi
    have him : i = m := by simpa using hi
    rw [him]
    exact ⟨by omega, hT listed a hB h⟩
  | cons o l ih =>
    intro k listed a hl hk inv hB hO h
    have h0 : ops[k]? = some o := by simpa using (hl 0 (by simp)).symm
    rw [List.length_cons] at hB hO hk
    have hB2 : ((Region.ready md ops listed).contains k && Region.free md ops listed k && Region.lexHead md ops g (l.length + 1) (k + 1) (listed.setIfInBounds k true)) = true := hB
    simp only [Bool.and_eq_true] at hB2
    obtain ⟨⟨hr, hf⟩, hB'⟩ := hB2
    have hr' : k ∈ Region.ready md ops listed := by simpa using hr
    obtain ⟨v, hy, hK⟩ := h
    refine heldAny_take h0 (Region.noSelect_spec hsel) (fun c a w => hQ c a _ _ w) hs hc hn (by omega) hdone (l.length + 1) listed a w inv (Region.free_spec h0 hf) hr' hy hS ?_
    exact ih (k + 1) _ _ (fun j hj => by have := hl (j + 1) (by simp; omega); simpa [Nat.add_assoc, Nat.add_comm 1 j] using this) (by omega) (inv.set hr' (by omega)) hB' hO hK

/-- THE LAW: m reads, one operation, a tail. -/
theorem wp_region_reads_tail {id : Nat} {a : Act} {w : World} {l : List Oper} (m : Nat) (hm : P.follows .mixedOrders = true) (hB : Region.lexTailB .any l.toArray (m + 1) = true) (hO : onlyB .any l.toArray m 0 (Array.replicate l.toArray.size false) = true)
    (hQ : ∀ c a d v w, Q (.panic c) (Act.put a d v) w → Q (.panic c) a w) (hS : S { w with drawn := w.drawn + 1 })
    (h : wpReads P l.toArray S (fun a' => wpOp P l.toArray Q m (fun a'' w' => S w' ∧ wpList P l.toArray Q (l.drop (m + 1)) a'' w') a' { w with drawn := w.drawn + 1 }) (l.take m) a) : (Code.region id l.toArray true).wp P Q a w := by
  simp only [Region.lexTailB, Bool.and_eq_true, decide_eq_true_eq] at hB
  obtain ⟨⟨⟨⟨hsel, hn⟩, hs⟩, hc⟩, hlex⟩ := hB
  have hnl : m + 1 < l.length := by simpa using hn
  have htl : (l.take m).length = m := by rw [List.length_take]; omega
  have hdl : (l.drop (m + 1)).length = l.toArray.size - (m + 1) := by simp
  have inv0 : HeadInv .any l.toArray (m + 1) (Array.replicate l.toArray.size false) :=
    ⟨by simp, fun j oj _ hl => (by rw [getD_replicate_false] at hl; cases hl), fun t _ ht => getD_in (by simpa using ht) (getD_replicate_false _ _)⟩
  have H := heldAny_of_reads (md := .any) (g := l.toArray.size - (m + 1)) (m := m) (L := fun listed' a' w' => Region.seqB .any l.toArray (l.toArray.size - (m + 1)) (m + 1) listed' = true ∧ wpList P l.toArray Q (l.drop (m + 1)) a' w') hQ hsel hs hc hn rfl hS
    (fun _ _ _ hL => seqB_ready hL.1) (fun listed a' hB' hT => by
      have hB2 : ((Region.ready .any l.toArray listed).contains m && Region.free .any l.toArray listed m && Region.seqB .any l.toArray (l.toArray.size - (m + 1)) (m + 1) (listed.setIfInBounds m true)) = true := hB'
      simp only [Bool.and_eq_true] at hB2
      exact wpOp_mono (fun a'' w'' h'' => ⟨h''.1, hB2.2, h''.2⟩) hT) (l.take m) 0 _ a (fun j hj => by
    rw [htl] at hj
    simp [hj]) (by simpa using htl) inv0 (by rw [htl]; exact hlex) (by rw [htl]; exact hO) h
  refine wp_region_any hm ?_
  have key := any_of_heldAny (Q := Q) (g := l.toArray.size - (m + 1)) (fun listed a' w' hL => by
    have := wpAny_of_seq (md := .any) (Q' := Q) (l.drop (m + 1)) (m + 1) listed a' w' (fun j => by simp [List.getElem?_drop]) (by rw [hdl]; exact hL.1) hL.2
    rwa [hdl] at this) _ _ _ _ H
  rw [htl, show m + 1 + (l.toArray.size - (m + 1)) = l.toArray.size by omega] at key
  exact key

/-- .. the operation is a call of a Go function whose contract ends in 'nothing old has turned'. -/
theorem wp_region_reads_call {id : Nat} {a : Act} {w : World} {l : List Oper} {o : Oper} (m : Nat) (ho : l.toArray[m]? = some o) (hm : P.follows .mixedOrders = true) (hB : Region.lexTailB .any l.toArray (m + 1) = true) (hO : onlyB .any l.toArray m 0 (Array.replicate l.toArray.size false) = true)
    (hQ : ∀ c a d v w, Q (.panic c) (Act.put a d v) w → Q (.panic c) a w)
    (h : wpReads P l.toArray (fun w' => ∃ p : Regrown, w' = grow (redrawn w p.d) p.os) (fun a' => ∀ K : Act → World → Prop, (∀ a'' w', Below w.heap.size w w' → wpList P l.toArray Q (l.drop (m + 1)) a'' w' → K a'' w') →
      if Region.wanted o (yielded l.toArray a'.tmps) = true then Oper.wp P o a' w.drew K Q else K (a'.put o.dst undef) w.drew) (l.take m) a) : (Code.region id l.toArray true).wp P Q a w := by
  refine wp_region_reads_tail (S := fun w' => ∃ p : Regrown, w' = grow (redrawn w p.d) p.os) m hm hB hO hQ ⟨⟨w.drawn + 1, #[]⟩, by rw [grow_empty]; rfl⟩ ?_
  have mono : ∀ (l' : List Oper) (a : Act) {T T' : Act → Prop}, (∀ a, T a → T' a) → wpReads P l.toArray (fun w' => ∃ p : Regrown, w' = grow (redrawn w p.d) p.os) T l' a → wpReads P l.toArray (fun w' => ∃ p : Regrown, w' = grow (redrawn w p.d) p.os) T' l' a := by
    intro l'
    induction l' with
    | nil => intro a T T' hT h; exact hT _ h
    | cons o l' ih =>
      intro a T T' hT h
      obtain ⟨v, hy, h⟩ := h
      exact ⟨v, hy, ih _ hT h⟩
  refine mono _ _ (fun a' h' => ?_) h
  refine wpOp_step ho (fun K hK => h' K (fun a'' w'' hb hw => hK a'' w'' ⟨regrown_of_below hb, hw⟩))
end
end Go.Proofs.YtbddlbhanpjdnaaGreatDoor

namespace Go.Proofs.YtbddlbhanpjdnaaGreatDoor
open Go.RowKit Go.Sort

theorem below_after {w w1 : World} {B : Nat} (hB : B ≤ w.heap.size) (hb : Below w.drew.heap.size w.drew w1) : Below B w w1 := (Below.refl B w).drew.trans (hb.mono hB)
theorem bs_after {w w1 : World} {p o : Nat} (h : BS w p o) (hb : Below w.drew.heap.size w.drew w1) : BS w1 p o := BS.below (w := w.drew) h hb

end Go.Proofs.YtbddlbhanpjdnaaGreatDoor
