import Derived.Test.YtoaggmegmgdgbaaGreatBig
import Derived.Test.YtoaggmegmgdgbaaGreatTail
import Derived.StillTail
import Derived.OrdersHeld
import Derived.Lib.QuietBelow
import Derived.Deep.CutBlock
import Derived.Test.YtoaggmegmgdgbaaGreatEuler
import Derived.Test.YtoaggmegmgdgbaaGreatAngN
import Derived.Test.YtoaggmegmgdgbaaGreatRnd
import Derived.Test.YtoaggmegmgdgbaaGreatBack
import Derived.Deep.CutRange
import Derived.Test.YtoaggmegmgdgbaaGreatRefA
import Derived.BigQuiet
import Derived.Test.YtoaggmegmgdgbaaGreatNatC
import Derived.Test.YtoaggmegmgdgbaaGreatAngA
import Derived.Test.YtoaggmegmgdgbaaGreatIter
import Derived.RangeFuncNested
import Derived.RangeFuncBound
import Derived.Shelf.Abstract
import Derived.Shelf.RegionOpen
import Derived.OwnWalkIn
import Derived.TacticsInMore
import Derived.LoopNIn
import Derived.LoopIn
namespace Go.Proofs.YtoaggmegmgdgbaaGreat
open Go.RowKit
open Go.RowKit Go.Sort
section
variable {P : Program} {ops : Array Oper} {md : Region.Mode} {S : World → Prop} {Q : Exit → Act → World → Prop}
def heldAny (P : Program) (md : Region.Mode) (ops : Array Oper) (Q : Exit → Act → World → Prop) (S : World → Prop) (n : Nat) (L : Array Bool → Act → World → Prop) : Nat → Array Bool → Act → World → Prop
  | 0, listed, a, w => L listed a w
  | f + 1, listed, a, w => Region.ready md ops listed ≠ [] ∧ ∀ i, i ∈ Region.ready md ops listed → i < n ∧ wpOp P ops Q i (fun a' w' => S w' ∧ heldAny P md ops Q S n L f (listed.setIfInBounds i true) a' w') a w
theorem any_of_heldAny {n g : Nat} {L : Array Bool → Act → World → Prop} (hL : ∀ listed a w, L listed a w → wpAny P md ops Q g listed a w) (f : Nat) :
    ∀ (listed : Array Bool) (a : Act) (w : World), heldAny P md ops Q S n L f listed a w → wpAny P md ops Q (f + g) listed a w := by
  induction f with
  | zero => intro listed a w h; rw [Nat.zero_add]; exact hL _ _ _ h
  | succ f ih =>
    intro listed a w h
    rw [Nat.add_right_comm]
    exact ⟨fun h0 => (h.1 h0).elim, fun i hi => wpOp_mono (fun a' w' h' => ih _ a' w' h'.2) (h.2 i hi).2⟩
theorem heldAny_take {n i : Nat} {oi : Oper} {v : Value} {L : Array Bool → Act → World → Prop} (hi : ops[i]? = some oi) (hsel : ∀ (j : Nat) (o : Oper) cs b, ops[j]? = some o → o.op ≠ .select cs b)
    (hQ : ∀ c a w, Q (.panic c) (a.put oi.dst v) w → Q (.panic c) a w)
    (hs : Region.sinkB md ops n = true) (hc : Region.chainB md ops n = true) (hn : n < ops.size) (hin : i < n) (hdone : ∀ listed a w, L listed a w → ∀ j, j ∈ Region.ready md ops listed → n ≤ j) (f : Nat) :
    ∀ (listed : Array Bool) (a : Act) (w : World), HeadInv md ops n listed →
      (∀ j oj, ops[j]? = some oj → j ≠ i → listed.getD j true = false → (∀ e ∈ oj.after, Region.binds md e = true → e.on ≠ i) → oi.apart ops oj = true) →
      i ∈ Region.ready md ops listed → YieldsIf P ops S oi v a → S w → heldAny P md ops Q S n L f (listed.setIfInBounds i true) (a.put oi.dst v) w → heldAny P md ops Q S n L (f + 1) listed a w := by
  induction f with
  | zero =>
    intro listed a w inv _ hr hy hS H
    have hun := (mem_ready.1 hr).1
    refine ⟨fun h => (by rw [h] at hr; cases hr), fun j hj => ?_⟩
    have hjn : j < n := Nat.lt_of_not_le fun hle => tail_waits hs hc hn inv _ i rfl hin hun j hle hj
    refine ⟨hjn, ?_⟩
    by_cases hji : j = i
    · rw [hji]; exact hy.wpOp hi hS ⟨hS, H⟩
    · exact absurd (hdone _ _ _ H j (ready_mono hj hji)) (Nat.not_le_of_lt hjn)
  | succ f ih =>
    intro listed a w inv hfree hr hy hS H
    have hun := (mem_ready.1 hr).1
    refine ⟨fun h => (by rw [h] at hr; cases hr), fun j hj => ?_⟩
    have hjn : j < n := Nat.lt_of_not_le fun hle => tail_waits hs hc hn inv _ i rfl hin hun j hle hj
    refine ⟨hjn, ?_⟩
    by_cases hji : j = i
    · rw [hji]; exact hy.wpOp hi hS ⟨hS, H⟩
    obtain ⟨hjun, oj, hoj, hall⟩ := mem_ready.1 hj
    have hnot : ∀ e ∈ oj.after, Region.binds md e = true → e.on ≠ i := fun e he hb heq => by
      have h1 := hall e he hb
      rw [heq, getD_both hun] at h1
      cases h1
    refine wpOp_mono (fun a' w' h3 => ⟨h3.2.1, ih (listed.setIfInBounds j true) a' w' (inv.set hj hjn) (fun k ok hk hki hku hno => ?_) (ready_mono hr (Ne.symm hji)) h3.1 h3.2.1 ?_⟩)
      (wpOp_putIf hoj (hfree j oj hoj hji hjun hnot) (fun cs b => hsel i oi cs b hi) (fun cs b => hsel j oj cs b hoj) hQ hy ((H.2 j (ready_mono hj hji)).2))
    · refine hfree k ok hk hki ?_ hno
      by_cases hjk : j = k
      · rw [← hjk]; exact hjun
      · rwa [getD_set_ne true hjk] at hku
    · rw [Array.setIfInBounds_comm _ _ hji]
      exact h3.2.2
def wpReads (P : Program) (ops : Array Oper) (S : World → Prop) (T : Act → Prop) : List Oper → Act → Prop
  | [], a => T a
  | o :: rest, a => ∃ v, YieldsIf P ops S o v a ∧ wpReads P ops S T rest (a.put o.dst v)
theorem wpReads_nil {T : Act → Prop} {a : Act} (h : T a) : wpReads P ops S T [] a := h
theorem wpReads_cons {T : Act → Prop} {a : Act} {o : Oper} {rest : List Oper} {v : Value} (hy : YieldsIf P ops S o v a) (h : wpReads P ops S T rest (a.put o.dst v)) : wpReads P ops S T (o :: rest) a := ⟨v, hy, h⟩
def onlyB (md : Region.Mode) (ops : Array Oper) : Nat → Nat → Array Bool → Bool
  | 0, k, listed => decide (Region.ready md ops listed = [k])
  | f + 1, k, listed => onlyB md ops f (k + 1) (listed.setIfInBounds k true)
theorem heldAny_of_reads {n g m : Nat} {w : World} {T : Act → Prop} {L : Array Bool → Act → World → Prop} (hQ : ∀ c a d v w, Q (.panic c) (Act.put a d v) w → Q (.panic c) a w)
    (hsel : Region.noSelect ops = true) (hs : Region.sinkB md ops n = true) (hc : Region.chainB md ops n = true) (hn : n < ops.size) (hmn : n = m + 1) (hS : S w)
    (hdone : ∀ listed a w, L listed a w → ∀ j, j ∈ Region.ready md ops listed → n ≤ j)
    (hT : ∀ listed a, Region.lexHead md ops g 1 m listed = true → T a → wpOp P ops Q m (fun a' w' => S w' ∧ L (listed.setIfInBounds m true) a' w') a w) :
    ∀ (l : List Oper) (k : Nat) (listed : Array Bool) (a : Act), (∀ j, j < l.length → l[j]? = ops[k + j]?) → k + l.length = m → HeadInv md ops n listed → Region.lexHead md ops g (l.length + 1) k listed = true → onlyB md ops l.length k listed = true →
      wpReads P ops S T l a → heldAny P md ops Q S n L (l.length + 1) listed a w := by
  intro l
  induction l with
  | nil =>
    intro k listed a _ hk _ hB hO h
    have hkm : k = m := by simpa using hk
    rw [hkm] at hB hO
    simp only [List.length_nil, onlyB, decide_eq_true_eq] at hO
    refine ⟨fun h0 => (by rw [hO] at h0; cases h0), fun i hi => ?_⟩
    rw [hO] at hi
    have him : i = m := by simpa using hi
    rw [him]
    exact ⟨by omega, hT listed a hB h⟩
  | cons o l ih =>
    intro k listed a hl hk inv hB hO h
    have h0 : ops[k]? = some o := by simpa using (hl 0 (by simp)).symm
    rw [List.length_cons] at hB hO hk
    have hB2 : ((Region.ready md ops listed).contains k && Region.free md ops listed k && Region.lexHead md ops g (l.length + 1) (k + 1) (listed.setIfInBounds k true)) = true := hB
    simp only [Bool.and_eq_true] at hB2
    obtain ⟨⟨hr, hf⟩, hB'⟩ := hB2
    have hr' : k ∈ Region.ready md ops listed := by simpa using hr
    obtain ⟨v, hy, hK⟩ := h
    refine heldAny_take h0 (Region.noSelect_spec hsel) (fun c a w => hQ c a _ _ w) hs hc hn (by omega) hdone (l.length + 1) listed a w inv (Region.free_spec h0 hf) hr' hy hS ?_
    exact ih (k + 1) _ _ (fun j hj => by have := hl (j + 1) (by simp; omega); simpa [Nat.add_assoc, Nat.add_comm 1 j] using this) (by omega) (inv.set hr' (by omega)) hB' hO hK
theorem wp_region_reads_tail {id : Nat} {a : Act} {w : World} {l : List Oper} (m : Nat) (hm : P.follows .mixedOrders = true) (hB : Region.lexTailB .any l.toArray (m + 1) = true) (hO : onlyB .any l.toArray m 0 (Array.replicate l.toArray.size false) = true)
    (hQ : ∀ c a d v w, Q (.panic c) (Act.put a d v) w → Q (.panic c) a w) (hS : S { w with drawn := w.drawn + 1 })
    (h : wpReads P l.toArray S (fun a' => wpOp P l.toArray Q m (fun a'' w' => S w' ∧ wpList P l.toArray Q (l.drop (m + 1)) a'' w') a' { w with drawn := w.drawn + 1 }) (l.take m) a) : (Code.region id l.toArray true).wp P Q a w := by
  simp only [Region.lexTailB, Bool.and_eq_true, decide_eq_true_eq] at hB
  obtain ⟨⟨⟨⟨hsel, hn⟩, hs⟩, hc⟩, hlex⟩ := hB
  have hnl : m + 1 < l.length := by simpa using hn
  have htl : (l.take m).length = m := by rw [List.length_take]; omega
  have hdl : (l.drop (m + 1)).length = l.toArray.size - (m + 1) := by simp
  have inv0 : HeadInv .any l.toArray (m + 1) (Array.replicate l.toArray.size false) :=
    ⟨by simp, fun j oj _ hl => (by rw [getD_replicate_false] at hl; cases hl), fun t _ ht => getD_in (by simpa using ht) (getD_replicate_false _ _)⟩
  have H := heldAny_of_reads (md := .any) (g := l.toArray.size - (m + 1)) (m := m) (L := fun listed' a' w' => Region.seqB .any l.toArray (l.toArray.size - (m + 1)) (m + 1) listed' = true ∧ wpList P l.toArray Q (l.drop (m + 1)) a' w') hQ hsel hs hc hn rfl hS
    (fun _ _ _ hL => seqB_ready hL.1) (fun listed a' hB' hT => by
      have hB2 : ((Region.ready .any l.toArray listed).contains m && Region.free .any l.toArray listed m && Region.seqB .any l.toArray (l.toArray.size - (m + 1)) (m + 1) (listed.setIfInBounds m true)) = true := hB'
      simp only [Bool.and_eq_true] at hB2
      exact wpOp_mono (fun a'' w'' h'' => ⟨h''.1, hB2.2, h''.2⟩) hT) (l.take m) 0 _ a (fun j hj => by
    rw [htl] at hj
    simp [hj]) (by simpa using htl) inv0 (by rw [htl]; exact hlex) (by rw [htl]; exact hO) h
  refine wp_region_any hm ?_
  have key := any_of_heldAny (Q := Q) (g := l.toArray.size - (m + 1)) (fun listed a' w' hL => by
    have := wpAny_of_seq (md := .any) (Q' := Q) (l.drop (m + 1)) (m + 1) listed a' w' (fun j => by simp [List.getElem?_drop]) (by rw [hdl]; exact hL.1) hL.2
    rwa [hdl] at this) _ _ _ _ H
  rw [htl, show m + 1 + (l.toArray.size - (m + 1)) = l.toArray.size by omega] at key
  exact key
theorem wp_region_reads_call {id : Nat} {a : Act} {w : World} {l : List Oper} {o : Oper} (m : Nat) (ho : l.toArray[m]? = some o) (hm : P.follows .mixedOrders = true) (hB : Region.lexTailB .any l.toArray (m + 1) = true) (hO : onlyB .any l.toArray m 0 (Array.replicate l.toArray.size false) = true)
    (hQ : ∀ c a d v w, Q (.panic c) (Act.put a d v) w → Q (.panic c) a w)
    (h : wpReads P l.toArray (fun w' => ∃ p : Regrown, w' = grow (redrawn w p.d) p.os) (fun a' => ∀ K : Act → World → Prop, (∀ a'' w', Below w.heap.size w w' → wpList P l.toArray Q (l.drop (m + 1)) a'' w' → K a'' w') →
      if Region.wanted o (yielded l.toArray a'.tmps) = true then Oper.wp P o a' w.drew K Q else K (a'.put o.dst undef) w.drew) (l.take m) a) : (Code.region id l.toArray true).wp P Q a w := by
  refine wp_region_reads_tail (S := fun w' => ∃ p : Regrown, w' = grow (redrawn w p.d) p.os) m hm hB hO hQ ⟨⟨w.drawn + 1, #[]⟩, by rw [grow_empty]; rfl⟩ ?_
  have mono : ∀ (l' : List Oper) (a : Act) {T T' : Act → Prop}, (∀ a, T a → T' a) → wpReads P l.toArray (fun w' => ∃ p : Regrown, w' = grow (redrawn w p.d) p.os) T l' a → wpReads P l.toArray (fun w' => ∃ p : Regrown, w' = grow (redrawn w p.d) p.os) T' l' a := by
    intro l'
    induction l' with
    | nil => intro a T T' hT h; exact hT _ h
    | cons o l' ih =>
      intro a T T' hT h
      obtain ⟨v, hy, h⟩ := h
      exact ⟨v, hy, ih _ hT h⟩
  refine mono _ _ (fun a' h' => ?_) h
  refine wpOp_step ho (fun K hK => h' K (fun a'' w'' hb hw => hK a'' w'' ⟨regrown_of_below hb, hw⟩))
end
open Go.RowKit Go.Sort
theorem below_after {w w1 : World} {B : Nat} (hB : B ≤ w.heap.size) (hb : Below w.drew.heap.size w.drew w1) : Below B w w1 := (Below.refl B w).drew.trans (hb.mono hB)
end Go.Proofs.YtoaggmegmgdgbaaGreat
namespace Go.Proofs.YtoaggmegmgdgbaaGreat
open Go.RowKit
def rd (X Y : Nat) : Nat × Nat := (X / Nat.gcd X Y, Y / Nat.gcd X Y)
theorem rd_scale {g X Y : Nat} (hg : 0 < g) : rd (g * X) (g * Y) = rd X Y := by
  unfold rd
  rw [Nat.gcd_mul_left, Nat.mul_div_mul_left _ _ hg, Nat.mul_div_mul_left _ _ hg]
theorem rd_self {X Y : Nat} (h : Nat.gcd X Y = 1) : rd X Y = (X, Y) := by
  unfold rd
  rw [h, Nat.div_one, Nat.div_one]
theorem rd_facts {X Y : Nat} (hY : 0 < Y) (hX : X < Y) : Nat.gcd (rd X Y).1 (rd X Y).2 = 1 ∧ (rd X Y).1 < (rd X Y).2 ∧ (rd X Y).2 ≤ Y := by
  unfold rd
  have g0 : 0 < Nat.gcd X Y := Nat.gcd_pos_of_pos_right _ hY
  refine ⟨?_, Nat.div_lt_div_of_lt_of_dvd (Nat.gcd_dvd_right _ _) hX, Nat.div_le_self _ _⟩
  rw [Nat.gcd_div (Nat.gcd_dvd_left _ _) (Nat.gcd_dvd_right _ _)]
  exact Nat.div_self g0
theorem turnX_eq (x y d n : Nat) : turnX x y d n = x * d ^ n % y := by
  unfold turnX
  rw [Nat.mul_mod, Nat.mod_mod, ← Nat.mul_mod]
theorem turn_turn {x y d m n N D : Nat} (hy : 0 < y) (h : (N, D) = rd (turnX x y d m) y) : rd (turnX N D d n) D = rd (turnX x y d (m + n)) y := by
  obtain ⟨T, hT⟩ : ∃ T, T = turnX x y d m := ⟨_, rfl⟩
  rw [← hT] at h
  unfold rd at h
  injection h with h1 h2
  obtain ⟨g, hg⟩ : ∃ g, g = Nat.gcd T y := ⟨_, rfl⟩
  have hg0 : 0 < g := by rw [hg]; exact Nat.gcd_pos_of_pos_right _ hy
  rw [← hg] at h1 h2
  have e1 : g * N = T := by rw [h1]; exact Nat.mul_div_cancel' (by rw [hg]; exact Nat.gcd_dvd_left _ _)
  have e2 : g * D = y := by rw [h2]; exact Nat.mul_div_cancel' (by rw [hg]; exact Nat.gcd_dvd_right _ _)
  have e3 : turnX x y d (m + n) = g * turnX N D d n := by
    rw [turnX_eq, turnX_eq, ← Nat.mul_mod_mul_left, e2, ← Nat.mul_assoc, e1, hT, turnX_eq, Nat.pow_add, ← Nat.mul_assoc, Nat.mul_mod (x * d ^ m % y), Nat.mod_mod, ← Nat.mul_mod]
  rw [e3]
  conv => rhs; rw [← e2]
  rw [rd_scale hg0]
theorem mod_of_sub {A B y : Nat} (h : A ≤ B) (hd : y ∣ B - A) : B % y = A % y := by
  obtain ⟨q, hq⟩ := hd
  rw [show B = A + y * q by omega, Nat.add_mul_mod_self_left]
theorem kind_facts {d : Nat} (hd : 1 ≤ d) : ∀ y, 0 < y → 1 ≤ (kindN y d).2 ∧ y ∣ d ^ (kindN y d).1 * (d ^ (kindN y d).2 - 1) ∧ (0 < (kindN y d).1 → ¬ y ∣ d ^ ((kindN y d).1 - 1) * (d ^ (kindN y d).2 - 1)) := by
  intro y
  induction y using Nat.strongRecOn with
  | _ y ih =>
    intro hy
    have hk := kindN_pos (d := d) hy
    refine ⟨hk, ?_⟩
    by_cases hg : Nat.gcd y d = 1
    · have e : kindN y d = (0, ordG y d) := kindF_end hg
      rw [e]
      refine ⟨?_, fun h => absurd h (by simp)⟩
      simp only [Nat.pow_zero, Nat.one_mul]
      exact (ordG_order hy hd (Nat.Coprime.symm hg)).1
    · obtain ⟨g, hgg⟩ : ∃ g, g = Nat.gcd y d := ⟨_, rfl⟩
      have hgy : g ∣ y := by rw [hgg]; exact Nat.gcd_dvd_left _ _
      have hgd : g ∣ d := by rw [hgg]; exact Nat.gcd_dvd_right _ _
      have hg0 : 0 < g := Nat.pos_of_dvd_of_pos hgy hy
      have hg1 : 1 < g := by rw [← hgg] at hg; omega
      have hlt : y / g < y := Nat.div_lt_self hy hg1
      have hp : 0 < y / g := Nat.div_pos (Nat.le_of_dvd hy hgy) hg0
      have ht := kindN_turn (d := d) hy
      rw [← hgg] at ht
      -- the kind of y is one more
      have hstep : kindN y d = ((kindN (y / g) d).1 + 1, (kindN (y / g) d).2) := by
        have h1 : kindN y d = kindF y y d 0 := rfl
        obtain ⟨f, hf⟩ : ∃ f, y = f + 1 := ⟨y - 1, by omega⟩
        have h2 : kindF y y d 0 = kindF f (y / Nat.gcd y d) d 1 := by
          have h3 := kindF_go (f := f) (c := 0) hg
          rw [← hf] at h3
          exact h3
        rw [h1, h2, ← hgg, kindF_add f (y / g) d 1 hp (by omega)]
      obtain ⟨-, i2, i3⟩ := ih (y / g) hlt hp
      rw [hstep] at hk ⊢
      simp only at hk ⊢
      obtain ⟨p, hpp⟩ : ∃ p, p = (kindN (y / g) d).1 := ⟨_, rfl⟩
      obtain ⟨k, hkk⟩ : ∃ k, k = (kindN (y / g) d).2 := ⟨_, rfl⟩
      rw [← hpp, ← hkk] at i2 i3
      rw [← hkk] at hk
      rw [← hpp, ← hkk]
      obtain ⟨w, hw⟩ : ∃ w, w = d ^ k - 1 := ⟨_, rfl⟩
      rw [← hw] at i2 i3 ⊢
      have ey : y = g * (y / g) := (Nat.mul_div_cancel' hgy).symm
      constructor
      · rw [Nat.pow_succ, Nat.mul_comm (d ^ p) d, Nat.mul_assoc]
        conv => lhs; rw [ey]
        exact Nat.mul_dvd_mul hgd i2
      · intro _ hdv
        rw [Nat.add_sub_cancel] at hdv
        rcases Nat.eq_zero_or_pos p with h0 | h0
        · rw [h0, Nat.pow_zero, Nat.one_mul] at hdv
          have h1 : g ∣ w := Nat.dvd_trans hgy hdv
          have h2 : g ∣ d ^ k := by
            obtain ⟨j, rfl⟩ : ∃ j, k = j + 1 := ⟨k - 1, by omega⟩
            rw [Nat.pow_succ]
            exact Nat.dvd_trans hgd (Nat.dvd_mul_left _ _)
          have h3 := one_pow (k := k) hd
          have h4 : g ∣ 1 := by
            have := (Nat.dvd_add_right h1).1 (by rw [hw, Nat.sub_add_cancel h3]; exact h2)
            exact this
          have := Nat.le_of_dvd (by omega) h4
          omega
        · refine i3 h0 ?_
          obtain ⟨d', hd'⟩ := hgd
          have hc : Nat.Coprime (y / g) d' := by
            have h1 : d' = d / g := by rw [hd', Nat.mul_div_cancel_left _ hg0]
            unfold Nat.Coprime
            rw [h1, hgg, Nat.gcd_div (Nat.gcd_dvd_left _ _) (Nat.gcd_dvd_right _ _), ← hgg]
            exact Nat.div_self hg0
          obtain ⟨j, hj⟩ : ∃ j, p = j + 1 := ⟨p - 1, by omega⟩
          rw [hj] at hdv ⊢
          rw [Nat.add_sub_cancel]
          rw [Nat.pow_succ, Nat.mul_comm (d ^ j) d, Nat.mul_assoc] at hdv
          conv at hdv => lhs; rw [ey]
          conv at hdv => rhs; arg 1; rw [hd']
          rw [Nat.mul_assoc] at hdv
          exact Nat.Coprime.dvd_of_dvd_mul_left hc (Nat.dvd_of_mul_dvd_mul_left hg0 hdv)
theorem orbit_back {x y d p k : Nat} (hd : 1 ≤ d) (hy : 0 < y) (hp : p = (kindN y d).1) (hk : k = (kindN y d).2) : turnX x y d (p + k) = turnX x y d p := by
  obtain ⟨-, h2, -⟩ := kind_facts hd y hy
  rw [← hp, ← hk] at h2
  rw [turnX_eq, turnX_eq, Nat.pow_add, ← Nat.mul_assoc]
  have h1 := one_pow (k := k) hd
  refine mod_of_sub (Nat.le_mul_of_pos_right _ h1) ?_
  rw [show x * d ^ p * d ^ k - x * d ^ p = x * (d ^ p * (d ^ k - 1)) by rw [← Nat.mul_assoc, Nat.mul_sub, Nat.mul_one]]
  exact Nat.dvd_trans h2 (Nat.dvd_mul_left _ _)
open Go.RowKit Go.Sort
theorem kind_le : ∀ (f n d c : Nat), 0 < n → n ≤ f → (kindF f n d c).2 ≤ n := by
  intro f
  induction f with
  | zero => intro n d c h0 h; omega
  | succ f ih =>
    intro n d c h0 h
    by_cases hg : Nat.gcd n d = 1
    · rw [kindF_end hg]; exact (ordG_le h0).2
    · rw [kindF_go hg]
      have g0 : 0 < Nat.gcd n d := Nat.gcd_pos_of_pos_left _ h0
      have h1 : 0 < n / Nat.gcd n d := Nat.div_pos (Nat.gcd_le_left _ h0) g0
      have h2 : n / Nat.gcd n d < n := Nat.div_lt_self h0 (by omega)
      have := ih (n / Nat.gcd n d) d (c + 1) h1 (by omega)
      omega
theorem ba_eqB {a b : ByteArray} (h : a.toList = b.toList) : a = b := by
  rw [ByteArray.toList_eq, ByteArray.toList_eq] at h
  cases a; cases b
  simp at h ⊢
  exact h
end Go.Proofs.YtoaggmegmgdgbaaGreat
namespace Go.Proofs.YtoaggmegmgdgbaaGreat
open Go.RowKit
theorem kind_rest {d : Nat} : ∀ y, 0 < y → ∃ r, r ∣ y ∧ 0 < r ∧ Nat.Coprime d r ∧ (kindN y d).2 = ordG r d := by
  intro y
  induction y using Nat.strongRecOn with
  | _ y ih =>
    intro hy
    by_cases hg : Nat.gcd y d = 1
    · have e : kindN y d = (0, ordG y d) := kindF_end hg
      exact ⟨y, Nat.dvd_refl _, hy, Nat.Coprime.symm hg, by rw [e]⟩
    · obtain ⟨g, hgg⟩ : ∃ g, g = Nat.gcd y d := ⟨_, rfl⟩
      have hgy : g ∣ y := by rw [hgg]; exact Nat.gcd_dvd_left _ _
      have hg0 : 0 < g := Nat.pos_of_dvd_of_pos hgy hy
      have hg1 : 1 < g := by rw [← hgg] at hg; omega
      have ht := kindN_turn (d := d) hy
      rw [← hgg] at ht
      obtain ⟨r, h1, h2, h3, h4⟩ := ih (y / g) (Nat.div_lt_self hy hg1) (Nat.div_pos (Nat.le_of_dvd hy hgy) hg0)
      rw [ht] at h4
      exact ⟨r, Nat.dvd_trans h1 (Nat.div_dvd_of_dvd hgy), h2, h3, h4⟩
theorem turnX_shift {x y d a b : Nat} (s : Nat) (h : turnX x y d a = turnX x y d b) : turnX x y d (a + s) = turnX x y d (b + s) := by
  rw [turnX_eq, turnX_eq] at h ⊢
  rw [Nat.pow_add, Nat.pow_add, ← Nat.mul_assoc, ← Nat.mul_assoc, Nat.mul_mod, h, ← Nat.mul_mod]
theorem orb_round {x y d p k s : Nat} (hd : 1 ≤ d) (hy : 0 < y) (hp : p = (kindN y d).1) (hk : k = (kindN y d).2) : ∀ t, turnX x y d (p + s + k * t) = turnX x y d (p + s)
  | 0 => by simp
  | t + 1 => by
    have h1 := orbit_back (x := x) hd hy hp hk
    have h2 := turnX_shift (s + k * t) h1
    rw [show p + s + k * (t + 1) = p + k + (s + k * t) by rw [Nat.mul_succ]; omega, h2, show p + (s + k * t) = p + s + k * t by omega]
    exact orb_round hd hy hp hk t
def orbM (x y d n : Nat) : Nat × Nat := rd (turnX x y d n) y
def orbL (x y d n : Nat) : List (Nat × Nat) := (List.range n).map (orbM x y d)
theorem orbL_len (x y d n : Nat) : (orbL x y d n).length = n := by simp [orbL]
theorem orbL_succ (x y d n : Nat) : orbL x y d (n + 1) = orbL x y d n ++ [orbM x y d n] := by simp [orbL, List.range_succ]
theorem orbL_get {x y d n i : Nat} (h : i < n) : (orbL x y d n)[i]? = some (orbM x y d i) := by simp [orbL, h]
theorem orbL_take {x y d i n : Nat} (h : i ≤ n) : (orbL x y d n).take i = orbL x y d i := by
  unfold orbL
  rw [← List.map_take, List.take_range, Nat.min_eq_left h]
def orbN (y d : Nat) : Nat := (kindN y d).1 + (kindN y d).2
theorem orbM_zero {x y d : Nat} (hc : Nat.gcd x y = 1) (hxy : x < y) : orbM x y d 0 = (x, y) := by
  unfold orbM
  rw [turnX_eq, Nat.pow_zero, Nat.mul_one, Nat.mod_eq_of_lt hxy, rd_self hc]
theorem orbM_facts {x y d n : Nat} (hy : 0 < y) : Nat.gcd (orbM x y d n).1 (orbM x y d n).2 = 1 ∧ (orbM x y d n).1 < (orbM x y d n).2 ∧ (orbM x y d n).2 ≤ y := rd_facts hy (Nat.mod_lt _ hy)
theorem orbM_next {x y d n N D : Nat} (hy : 0 < y) (h : (N, D) = orbM x y d n) : orbM N D d 1 = orbM x y d (n + 1) := turn_turn hy h
theorem orbL_head {x y d t : Nat} {pre : List (Nat × Nat)} {p : Nat × Nat} (h : pre ++ [p] <+: orbL x y d t) : pre = orbL x y d pre.length ∧ p = orbM x y d pre.length ∧ pre.length < t := by
  have hl := h.length_le
  rw [List.length_append, orbL_len, List.length_singleton] at hl
  have e := List.prefix_iff_eq_take.1 h
  rw [List.length_append, List.length_singleton, orbL_take (by omega), orbL_succ] at e
  have h2 := List.append_inj e (by rw [orbL_len])
  exact ⟨h2.1, by simpa using h2.2, by omega⟩
end Go.Proofs.YtoaggmegmgdgbaaGreat
namespace Go.Proofs.YtoaggmegmgdgbaaGreat
open Go.RowKit Go.Sort
def vb (l : List Nat) : Nat := be l.reverse
open Go.RowKit Go.Sort
open Go.RowKit Go.Sort
open Go.RowKit Go.Sort
end Go.Proofs.YtoaggmegmgdgbaaGreat
namespace Go.Proofs.YtoaggmegmgdgbaaGreat
open Go.RowKit Go.Sort
attribute [local go_sem] Oper.semAt_some
def orbR (neg : Bool) (num den : ByteArray) (d : Int) : List (Nat × Nat) :=
  if okA neg num den && roundB d then orbL (be (sl num)) (be (sl den)) d.toNat (orbN (be (sl den)) d.toNat) else []
theorem blk_keep {S : Nat → Prop} {A B : World} {g : Nat} {T : TypeId} {cs : Array Value} (h : Blk A g T cs) (hk : KeepB S A B) (hg : S g) : Blk B g T cs := (hk.block g hg).trans h
theorem outB_of_below {lo hi : Nat} {A B : World} (h : Below A.heap.size A B) : OutB lo hi A B := (OutB.refl lo hi A).below h
set_option maxRecDepth 100000 in
set_option maxHeartbeats 4000000 in
theorem orbit_iter (ng : Bool) (nu de : ByteArray) (d : Int) (gA gD : Nat) (w0 : World) (z1 : nu.size ≤ 9223372036854775807) (z2 : de.size ≤ 9223372036854775807)
    (hA : Blk w0 gA 26 #[.bool ng, .string nu, .string de]) (hD : Blk w0 gD 3 #[.int .i64 d]) :
    IterB Tryz.prog 144 #[.pointer (some ⟨gA, 0, none⟩), .pointer (some ⟨gD, 0, none⟩)] (fun (p : Nat × Nat) => #[ratV p.1 p.2]) (orbR ng nu de d) (fun k => k = gA ∨ k = gD) w0 := by
  intro l J Jx W hW hJ hJx hY h0
  replace hA := hA.below hW
  replace hD := hD.below hW
  obtain ⟨x, y, hs, hq⟩ := smallV_form ng nu de
  obtain ⟨ok, hok⟩ : ∃ b, b = okA ng nu de := ⟨_, rfl⟩
  obtain ⟨R, hR⟩ : ∃ R, R = orbR ng nu de d := ⟨_, rfl⟩
  rw [← hok] at hs hq
  rw [← hR] at hY ⊢
  replace hR := Lib.hid hR
  replace hs := Lib.hid hs
  replace hq := Lib.hid hq
  replace hok := Lib.hid hok
  replace hA := Lib.hid hA
  replace hD := Lib.hid hD
  replace hJ := Lib.hid hJ
  replace hJx := Lib.hid hJx
  replace hY := Lib.hid hY
  replace h0 := Lib.hid h0
  have a0 : W.cell? ⟨gA, 0, none⟩ = some (.bool ng) := hA.out.cell 0
  have a1 : W.cell? ⟨gA, 1, none⟩ = some (.string nu) := hA.out.cell 1
  have a2 : W.cell? ⟨gA, 2, none⟩ = some (.string de) := hA.out.cell 2
  refine callsIn_of_wp Tryz.func144 rfl trivial ?_ rfl
  simp only [Tryz.ntmps144, List.size_toArray, List.length_cons, List.length_nil, Nat.reduceAdd, Nat.reduceSub, Array.replicate_succ, Array.replicate_zero, List.push_toArray, List.append_toArray, List.nil_append, List.cons_append]
  refine wpIn_wide.2 ?_
  go_wp2_with fail
  refine (small_any ng nu de _ z1 z2).mono ?_
  rintro e v1 ⟨rfl, hb⟩
  rw [hs.out]
  have kp := Blk.new v1 144 #[.int .u64 (x : Int), .int .u64 (y : Int)]
  have hO : ∀ lo hi, OutB lo hi W (v1.alloc (.cells #[.int .u64 (x : Int), .int .u64 (y : Int)] 144)) := fun lo hi => (outB_of_below hb).alloc _
  have hA2 := (Blk.below hA.out hb).alloc (.cells #[.int .u64 (x : Int), .int .u64 (y : Int)] 144)
  have hD2 := (Blk.below hD.out hb).alloc (.cells #[.int .u64 (x : Int), .int .u64 (y : Int)] 144)
  have hgA := hA.out.lt
  have hgD := hD.out.lt
  have hWs := hb.size
  have hus : v1.heap.size < (v1.alloc (.cells #[.int .u64 (x : Int), .int .u64 (y : Int)] 144)).heap.size := by simp
  clear hb a0 a1 a2 hA hD
  go_upto_region 1 with fail
  generalize hxx : v1.alloc (.cells #[.int .u64 (x : Int), .int .u64 (y : Int)] 144) = u at kp hO hA2 hD2 hus ⊢
  generalize hgg : v1.heap.size = gp at *
  clear hxx hgg
  replace kp := Lib.hid kp
  replace hO := Lib.hid hO
  replace hA2 := Lib.hid hA2
  replace hD2 := Lib.hid hD2
  have d0 : u.cell? ⟨gD, 0, none⟩ = some (.int .i64 d) := hD2.out.cell 0
  have p0 : u.cell? ⟨gp, 0, none⟩ = some (.int .u64 (x : Int)) := kp.out.cell 0
  have p1 : u.cell? ⟨gp, 1, none⟩ = some (.int .u64 (y : Int)) := kp.out.cell 1
  cases ok
  · have hRe : R = [] := by rw [hR.out]; simp [orbR, ← hok.out]
    subst hRe
    clear hR
    go_wp2_with fail
    refine bodyPost_ret (results_none rfl _ _ _) rfl ?_
    exact ⟨⟨_, rfl⟩, 0, .inl (hJ.out _ _ _ _ (h0.out 0) (hO.out _ _))⟩
  cases hr : roundB d
  · have hRe : R = [] := by rw [hR.out]; simp [orbR, hr]
    subst hRe
    replace hr := Lib.hid hr
    clear hR
    go_wp2_with fail
    refine (aturns_any d _).mono ?_
    rintro e x0 ⟨rfl, rfl⟩
    rw [hr.out]
    go_wp2_with fail
    refine bodyPost_ret (results_none rfl _ _ _) rfl ?_
    exact ⟨⟨_, rfl⟩, 0, .inl (hJ.out _ _ _ _ (h0.out 0) (hO.out _ _))⟩
  obtain ⟨ex, ey, k1, kl⟩ := hq.out rfl
  have hd := roundB_iff.1 hr
  obtain ⟨dn, rfl⟩ := Int.eq_ofNat_of_zero_le (show 0 ≤ d by omega)
  have hgc : Nat.gcd x y = 1 := by rw [ex, ey]; exact (okA_spec hok.out.symm).2.2.2.1
  have y0 : 0 < y := by omega
  obtain ⟨A, hAe⟩ : ∃ A, A = (kindN y dn).1 := ⟨_, rfl⟩
  obtain ⟨B, hBe⟩ : ∃ B, B = (kindN y dn).2 := ⟨_, rfl⟩
  have hk : Hid (kindN y dn = (A, B)) := Lib.hid (by rw [hAe, hBe])
  have hAs : A ≤ 2147483647 := by rw [hAe]; have := kindF_cnt y y dn 0; unfold kindN; omega
  have hBs : B ≤ 2147483647 := by rw [hBe]; have := kind_le y y dn 0 y0 (Nat.le_refl _); unfold kindN; omega
  obtain ⟨t, ht⟩ : ∃ t, t = A + B := ⟨_, rfl⟩
  have htI : (A : Int) + (B : Int) = (t : Int) := by omega
  have hRe : Hid (R = orbL x y dn t) := Lib.hid (by
    rw [hR.out, orbR, ← hok.out, hr, ht, hAe, hBe, ex, ey]
    simp [orbN])
  have hstart : Hid ((x, y) = orbM x y dn 0) := Lib.hid (orbM_zero hgc k1).symm
  have wd : IntKind.u64.wrap (dn : Int) = (dn : Int) := by rw [IntKind.wrap_u64]; omega
  have hts : t ≤ 4294967294 := by omega
  have hdI : (2 : Int) ≤ (dn : Int) := hd.1
  have hdI2 : (dn : Int) ≤ 64 := hd.2
  replace hr := Lib.hid hr
  clear hR hAe hBe ht ex ey hgc hd
  go_wp2_with fail
  refine (aturns_any (dn : Int) _).mono ?_
  rintro e x0 ⟨rfl, rfl⟩
  rw [hr.out]
  go_wp2_with fail
  refine (kind_any y dn A B _ y0 (by omega) (by omega) hk).mono ?_
  rintro e u2 ⟨rfl, hb⟩
  replace kp := Lib.hid (Blk.below kp.out hb)
  replace hA2 := Lib.hid (Blk.below hA2.out hb)
  replace hD2 := Lib.hid (Blk.below hD2.out hb)
  have hus2 : gp < u2.heap.size := by have := hb.size; omega
  obtain ⟨m, hm⟩ : ∃ m, W.heap.size + m = gp + 1 := ⟨gp + 1 - W.heap.size, by omega⟩
  have hJ0 : Hid (J m [] u2) := Lib.hid (hJ.out _ _ _ _ (h0.out m) ((hO.out _ _).below hb))
  clear hb d0 p0 p1 hO h0 hus
  go_wp2_with fail
  go_loopw [31] (fun c wr => ∃ (j N D : Nat), c = .int .i64 (j : Int) ∧ j ≤ t ∧ (N, D) = orbM x y dn j ∧ Blk wr gp 144 #[.int .u64 (N : Int), .int .u64 (D : Int)] ∧ Blk wr gA 26 #[.bool ng, .string nu, .string de] ∧ Blk wr gD 3 #[.int .i64 (dn : Int)] ∧ J m (orbL x y dn j) wr) (fun c _ => t - (intOf c).toNat)
  case atStart => exact ⟨0, x, y, rfl, Nat.zero_le _, hstart.out, kp.out, hA2.out, hD2.out, hJ0.out⟩
  case round =>
    obtain ⟨j, N, D, rfl, hj, hND, hp, hA3, hD3, hJj⟩ := hrel
    have hjI9 : (j : Int) ≤ 4294967294 := by omega
    by_cases hjt : j < t
    · have hjI : (j : Int) < (t : Int) := by omega
      have hf := orbM_facts (x := x) (d := dn) (n := j) y0
      rw [← hND] at hf
      obtain ⟨f1, f2, f3⟩ := hf
      simp only at f1 f2 f3
      have p0 : wr.cell? ⟨gp, 0, none⟩ = some (.int .u64 (N : Int)) := hp.cell 0
      have p1 : wr.cell? ⟨gp, 1, none⟩ = some (.int .u64 (D : Int)) := hp.cell 1
      have hlt := hp.lt
      replace hND := Lib.hid hND
      replace hp := Lib.hid hp
      replace hA3 := Lib.hid hA3
      replace hD3 := Lib.hid hD3
      replace hJj := Lib.hid hJj
      obtain ⟨wo, rfl⟩ : ∃ wo : World, wo = wr := ⟨_, rfl⟩
      refine (wpIn_wide (n := 0)).1 ?_
      gi_wp2_with fail
      refine ⟨trivial, rfl, (callsIn_wide.2 (ratioOf_any N D _ (by omega) (by omega))).mono ?_⟩
      rintro e w1 ⟨rfl, hb⟩
      replace hp := Lib.hid (Blk.below hp.out hb)
      replace hA3 := Lib.hid (Blk.below hA3.out hb)
      replace hD3 := Lib.hid (Blk.below hD3.out hb)
      replace hJj := Lib.hid (hJ.out _ _ _ _ hJj.out (outB_of_below hb))
      have hlt1 : gp < w1.heap.size := by have := hb.size; omega
      have hpre : orbL x y dn j ++ [orbM x y dn j] <+: R := by
        rw [← orbL_succ, hRe.out, ← orbL_take (show j + 1 ≤ t by omega)]
        exact List.take_prefix _ _
      obtain ⟨fn, tmps, assign, body, hy, hrd⟩ := hY.out m _ _ w1 hJj.out (by omega) hpre
      simp only [← hND.out] at hy
      replace hrd := Lib.hid hrd
      clear hb p0 p1 hpre hlt
      gi_wp2_with fail
      refine ⟨rfl, hrd.out.mono ?_⟩
      rintro e w2 (⟨rfl, hJ2, hkp⟩ | ⟨rfl, hJx2⟩)
      · have hp2 := blk_keep hp.out hkp (.inr ⟨by omega, by omega⟩)
        have hA4 := blk_keep hA3.out hkp (.inl (.inl rfl))
        have hD4 := blk_keep hD3.out hkp (.inl (.inr rfl))
        have p0 : w2.cell? ⟨gp, 0, none⟩ = some (.int .u64 (N : Int)) := hp2.cell 0
        have p1 : w2.cell? ⟨gp, 1, none⟩ = some (.int .u64 (D : Int)) := hp2.cell 1
        have d0 : w2.cell? ⟨gD, 0, none⟩ = some (.int .i64 (dn : Int)) := hD4.cell 0
        rw [← orbL_succ] at hJ2
        obtain ⟨T, hT⟩ : ∃ T, T = turnX N D dn 1 := ⟨_, rfl⟩
        obtain ⟨N2, hN2⟩ : ∃ a, a = T / Nat.gcd T D := ⟨_, rfl⟩
        obtain ⟨D2, hD2⟩ : ∃ a, a = D / Nat.gcd T D := ⟨_, rfl⟩
        have hTe : Hid (T = N * dn % D) := Lib.hid (by rw [hT, turnX_eq, Nat.pow_one])
        have hnext : Hid ((N2, D2) = orbM x y dn (j + 1)) := Lib.hid (by
          rw [← orbM_next y0 hND.out, hN2, hD2, hT]; rfl)
        replace hN2 := Lib.hid hN2
        replace hD2 := Lib.hid hD2
        replace hp2 := Lib.hid hp2
        replace hA4 := Lib.hid hA4
        replace hD4 := Lib.hid hD4
        replace hJ2 := Lib.hid hJ2
        clear hkp hT hy hrd hp hA3 hD3 hJj
        gi_wp2_with fail
        refine ⟨trivial, rfl, (callsIn_wide.2 (turn_any N D dn T N2 D2 _ (by omega) (by omega) (by omega) (by omega) hTe hN2 hD2)).mono ?_⟩
        rintro e w3 ⟨rfl, hb⟩
        have hp3 := Blk.below hp2.out hb
        have f0 := hp3.frozen 0
        have f1 := hp3.frozen 1
        have q0 : w3.cell? ⟨gp, 0, none⟩ = some (.int .u64 (N : Int)) := hp3.cell 0
        have q1 : w3.cell? ⟨gp, 1, none⟩ = some (.int .u64 (D : Int)) := hp3.cell 1
        have hp5 : Blk ((w3.setCell ⟨gp, 0, none⟩ (.int .u64 (N2 : Int))).setCell ⟨gp, 1, none⟩ (.int .u64 (D2 : Int))) gp 144 #[.int .u64 (N2 : Int), .int .u64 (D2 : Int)] := (hp3.set_ 0 _).set_ 1 _
        have hA5 : Blk ((w3.setCell ⟨gp, 0, none⟩ (.int .u64 (N2 : Int))).setCell ⟨gp, 1, none⟩ (.int .u64 (D2 : Int))) gA 26 #[.bool ng, .string nu, .string de] := ((Blk.below hA4.out hb).far (p := ⟨gp, 0, none⟩) (by simp; omega) _).far (p := ⟨gp, 1, none⟩) (by simp; omega) _
        have hD5 : Blk ((w3.setCell ⟨gp, 0, none⟩ (.int .u64 (N2 : Int))).setCell ⟨gp, 1, none⟩ (.int .u64 (D2 : Int))) gD 3 #[.int .i64 (dn : Int)] := ((Blk.below hD4.out hb).far (p := ⟨gp, 0, none⟩) (by simp; omega) _).far (p := ⟨gp, 1, none⟩) (by simp; omega) _
        have hJ5 : J m (orbL x y dn (j + 1)) ((w3.setCell ⟨gp, 0, none⟩ (.int .u64 (N2 : Int))).setCell ⟨gp, 1, none⟩ (.int .u64 (D2 : Int))) :=
          hJ.out _ _ _ _ hJ2.out (((outB_of_below hb).setCell (p := ⟨gp, 0, none⟩) (by simp; omega) (by simp; omega) _).setCell (p := ⟨gp, 1, none⟩) (by simp; omega) (by simp; omega) _)
        replace hp5 := Lib.hid hp5
        replace hA5 := Lib.hid hA5
        replace hD5 := Lib.hid hD5
        replace hJ5 := Lib.hid hJ5
        clear hb hp2 hA4 hD4 hJ2 hp3 p0 p1 d0
        gi_wp2_with fail
        go_roundw
        case rel => exact ⟨j + 1, N2, D2, by go_num, by omega, hnext.out, hp5.out, hA5.out, hD5.out, hJ5.out⟩
        case measure => simp [intOf]; omega
      · have hpre2 : orbL x y dn j ++ [orbM x y dn j] <+: R := by
          rw [← orbL_succ, hRe.out, ← orbL_take (show j + 1 ≤ t by omega)]
          exact List.take_prefix _ _
        replace hpre2 := Lib.hid hpre2
        replace hJx2 := Lib.hid hJx2
        clear hy hrd
        gi_wp2_with fail
        refine bodyPost_ret (results_none rfl _ _ _) rfl ?_
        exact ⟨⟨_, rfl⟩, m, .inr ⟨_, hpre2.out, hJx2.out⟩⟩
    · obtain rfl : j = t := by omega
      have hjI : ¬ (j : Int) < (j : Int) := by omega
      replace hJj := Lib.hid hJj
      clear hp hA3 hD3 hND
      go_wp2_with fail
      go_end0
      exact ⟨⟨_, rfl⟩, m, .inl (by rw [hRe.out]; exact hJj.out)⟩
open Go.RowKit Go.Sort
open Go.RowKit Go.Sort
def RetIt (ng : Bool) (nu de : ByteArray) (d : Int) (w : World) (e : Ending) (w' : World) : Prop :=
  ∃ gA gD, e = .returned (.func (.func 144) #[] #[.pointer (some ⟨gA, 0, none⟩), .pointer (some ⟨gD, 0, none⟩)]) ∧ Blk w' gA 26 #[.bool ng, .string nu, .string de] ∧ Blk w' gD 3 #[.int .i64 d] ∧ Below w.heap.size w w'
set_option maxRecDepth 100000 in
theorem orbit_any (ng : Bool) (nu de : ByteArray) (d : Int) (w : World) :
    Calls Tryz.prog 101 #[.agg #[.bool ng, .string nu, .string de], .int .i64 d] w (RetIt ng nu de d w) := by
  have k1 := (Blk.new w 26 #[.bool ng, .string nu, .string de]).alloc (.cells #[.int .i64 d] 3)
  have k2 := Blk.new (w.alloc (.cells #[.bool ng, .string nu, .string de] 26)) 3 #[.int .i64 d]
  have hb : Below w.heap.size w ((w.alloc (.cells #[.bool ng, .string nu, .string de] 26)).alloc (.cells #[.int .i64 d] 3)) := ((Below.refl _ w).alloc (Nat.le_refl _) _).alloc (by simp) _
  replace k1 := Lib.hid k1
  replace k2 := Lib.hid k2
  replace hb := Lib.hid hb
  go_enter Tryz.func101, Tryz.ntmps101
  go_wp2_with fail
  go_ret
  exact ⟨_, _, rfl, k1.out, by simpa using k2.out, hb.out⟩
theorem gb_out {a A B : World} {r : Option Nat} {hi : Nat} (h : a.grownBy A r) (ho : OutB a.heap.size hi A B) : a.grownBy B r :=
  ⟨ho.os.trans h.os, ho.tape.trans h.tape, ho.output.trans h.output, Nat.le_trans h.size ho.size, fun k hk hne => (ho.block k (Nat.lt_of_lt_of_le hk h.size) (by omega)).trans (h.block k hk hne)⟩
theorem blk_out {A B : World} {g lo hi : Nat} {T : TypeId} {cs : Array Value} (h : Blk A g T cs) (hg : g < lo) (ho : OutB lo hi A B) : Blk B g T cs := (ho.block g h.lt (by omega)).trans h
theorem leaves_one {P : Program} {fn : Func} {tmps : Array Value} {R : Ending → World → Prop} {W : World} {v : Value} {D : Nat} (hK : W.heap[D]? = some (.deferred (some []))) (hr : (results fn tmps).run P (W.putObj D (.deferred none)) = .ok v (W.putObj D (.deferred none)))
    (hR : R (.returned v) (W.putObj D (.deferred none))) : LeavesInM Fence.wide 0 P fn tmps R [{ target := .collected D, args := #[] }] .returning W :=
  ⟨by simp, .inl ⟨_, _, rfl, run_takeDeferred hK, ⟨_, hr, hR⟩⟩⟩
theorem blk_put {W : World} {g r : Nat} {T : TypeId} {cs : Array Value} (h : Blk W g T cs) (hne : g ≠ r) (o : Obj) : Blk (W.putObj r o) g T cs := (World.putObj_heap_other hne).trans h
theorem below_put {B r : Nat} {a W : World} (h : Below B a W) (hr : B ≤ r) (o : Obj) : Below B a (W.putObj r o) :=
  h.trans ⟨rfl, rfl, rfl, by simp, fun k hk => World.putObj_heap_other (by omega)⟩
theorem own_put {W : World} {base : Nat} {T : TypeId} {size : Nat} {v : Value} {n : Nat} {xs : List Value} (h : W.ownsRow base T size v n xs) {r : Nat} (hne : v.ownBlock ≠ some r) (o : Obj) : (W.putObj r o).ownsRow base T size v n xs :=
  h.kept (grownBy_putObj' W r o) (.inr hne)
attribute [local go_sem] Oper.semAt_some
end Go.Proofs.YtoaggmegmgdgbaaGreat
