import Derived.Test.YtoaggmegmgdgbaaGreatBig
import Derived.Test.YtoaggmegmgdgbaaGreatTail
import Derived.StillTail
import Derived.OrdersHeld
import Derived.Lib.QuietBelow
import Derived.Deep.CutBlock
namespace Go.Proofs.YtoaggmegmgdgbaaGreat
open Go.RowKit
open Go.RowKit Go.Sort
section
variable {P : Program} {ops : Array Oper} {md : Region.Mode} {S : World → Prop} {Q : Exit → Act → World → Prop}
def heldAny (P : Program) (md : Region.Mode) (ops : Array Oper) (Q : Exit → Act → World → Prop) (S : World → Prop) (n : Nat) (L : Array Bool → Act → World → Prop) : Nat → Array Bool → Act → World → Prop
  | 0, listed, a, w => L listed a w
  | f + 1, listed, a, w => Region.ready md ops listed ≠ [] ∧ ∀ i, i ∈ Region.ready md ops listed → i < n ∧ wpOp P ops Q i (fun a' w' => S w' ∧ heldAny P md ops Q S n L f (listed.setIfInBounds i true) a' w') a w
theorem any_of_heldAny {n g : Nat} {L : Array Bool → Act → World → Prop} (hL : ∀ listed a w, L listed a w → wpAny P md ops Q g listed a w) (f : Nat) :
    ∀ (listed : Array Bool) (a : Act) (w : World), heldAny P md ops Q S n L f listed a w → wpAny P md ops Q (f + g) listed a w := by
  induction f with
  | zero => intro listed a w h; rw [Nat.zero_add]; exact hL _ _ _ h
  | succ f ih =>
    intro listed a w h
    rw [Nat.add_right_comm]
    exact ⟨fun h0 => (h.1 h0).elim, fun i hi => wpOp_mono (fun a' w' h' => ih _ a' w' h'.2) (h.2 i hi).2⟩
theorem heldAny_take {n i : Nat} {oi : Oper} {v : Value} {L : Array Bool → Act → World → Prop} (hi : ops[i]? = some oi) (hsel : ∀ (j : Nat) (o : Oper) cs b, ops[j]? = some o → o.op ≠ .select cs b)
    (hQ : ∀ c a w, Q (.panic c) (a.put oi.dst v) w → Q (.panic c) a w)
    (hs : Region.sinkB md ops n = true) (hc : Region.chainB md ops n = true) (hn : n < ops.size) (hin : i < n) (hdone : ∀ listed a w, L listed a w → ∀ j, j ∈ Region.ready md ops listed → n ≤ j) (f : Nat) :
    ∀ (listed : Array Bool) (a : Act) (w : World), HeadInv md ops n listed →
      (∀ j oj, ops[j]? = some oj → j ≠ i → listed.getD j true = false → (∀ e ∈ oj.after, Region.binds md e = true → e.on ≠ i) → oi.apart ops oj = true) →
      i ∈ Region.ready md ops listed → YieldsIf P ops S oi v a → S w → heldAny P md ops Q S n L f (listed.setIfInBounds i true) (a.put oi.dst v) w → heldAny P md ops Q S n L (f + 1) listed a w := by
  induction f with
  | zero =>
    intro listed a w inv _ hr hy hS H
    have hun := (mem_ready.1 hr).1
    refine ⟨fun h => (by rw [h] at hr; cases hr), fun j hj => ?_⟩
    have hjn : j < n := Nat.lt_of_not_le fun hle => tail_waits hs hc hn inv _ i rfl hin hun j hle hj
    refine ⟨hjn, ?_⟩
    by_cases hji : j = i
    · rw [hji]; exact hy.wpOp hi hS ⟨hS, H⟩
    · exact absurd (hdone _ _ _ H j (ready_mono hj hji)) (Nat.not_le_of_lt hjn)
  | succ f ih =>
    intro listed a w inv hfree hr hy hS H
    have hun := (mem_ready.1 hr).1
    refine ⟨fun h => (by rw [h] at hr; cases hr), fun j hj => ?_⟩
    have hjn : j < n := Nat.lt_of_not_le fun hle => tail_waits hs hc hn inv _ i rfl hin hun j hle hj
    refine ⟨hjn, ?_⟩
    by_cases hji : j = i
    · rw [hji]; exact hy.wpOp hi hS ⟨hS, H⟩
    obtain ⟨hjun, oj, hoj, hall⟩ := mem_ready.1 hj
    have hnot : ∀ e ∈ oj.after, Region.binds md e = true → e.on ≠ i := fun e he hb heq => by
      have h1 := hall e he hb
      rw [heq, getD_both hun] at h1
      cases h1
    refine wpOp_mono (fun a' w' h3 => ⟨h3.2.1, ih (listed.setIfInBounds j true) a' w' (inv.set hj hjn) (fun k ok hk hki hku hno => ?_) (ready_mono hr (Ne.symm hji)) h3.1 h3.2.1 ?_⟩)
      (wpOp_putIf hoj (hfree j oj hoj hji hjun hnot) (fun cs b => hsel i oi cs b hi) (fun cs b => hsel j oj cs b hoj) hQ hy ((H.2 j (ready_mono hj hji)).2))
    · refine hfree k ok hk hki ?_ hno
      by_cases hjk : j = k
      · rw [← hjk]; exact hjun
      · rwa [getD_set_ne true hjk] at hku
    · rw [Array.setIfInBounds_comm _ _ hji]
      exact h3.2.2
def wpReads (P : Program) (ops : Array Oper) (S : World → Prop) (T : Act → Prop) : List Oper → Act → Prop
  | [], a => T a
  | o :: rest, a => ∃ v, YieldsIf P ops S o v a ∧ wpReads P ops S T rest (a.put o.dst v)
theorem wpReads_nil {T : Act → Prop} {a : Act} (h : T a) : wpReads P ops S T [] a := h
theorem wpReads_cons {T : Act → Prop} {a : Act} {o : Oper} {rest : List Oper} {v : Value} (hy : YieldsIf P ops S o v a) (h : wpReads P ops S T rest (a.put o.dst v)) : wpReads P ops S T (o :: rest) a := ⟨v, hy, h⟩
def onlyB (md : Region.Mode) (ops : Array Oper) : Nat → Nat → Array Bool → Bool
  | 0, k, listed => decide (Region.ready md ops listed = [k])
  | f + 1, k, listed => onlyB md ops f (k + 1) (listed.setIfInBounds k true)
theorem heldAny_of_reads {n g m : Nat} {w : World} {T : Act → Prop} {L : Array Bool → Act → World → Prop} (hQ : ∀ c a d v w, Q (.panic c) (Act.put a d v) w → Q (.panic c) a w)
    (hsel : Region.noSelect ops = true) (hs : Region.sinkB md ops n = true) (hc : Region.chainB md ops n = true) (hn : n < ops.size) (hmn : n = m + 1) (hS : S w)
    (hdone : ∀ listed a w, L listed a w → ∀ j, j ∈ Region.ready md ops listed → n ≤ j)
    (hT : ∀ listed a, Region.lexHead md ops g 1 m listed = true → T a → wpOp P ops Q m (fun a' w' => S w' ∧ L (listed.setIfInBounds m true) a' w') a w) :
    ∀ (l : List Oper) (k : Nat) (listed : Array Bool) (a : Act), (∀ j, j < l.length → l[j]? = ops[k + j]?) → k + l.length = m → HeadInv md ops n listed → Region.lexHead md ops g (l.length + 1) k listed = true → onlyB md ops l.length k listed = true →
      wpReads P ops S T l a → heldAny P md ops Q S n L (l.length + 1) listed a w := by
  intro l
  induction l with
  | nil =>
    intro k listed a _ hk _ hB hO h
    have hkm : k = m := by simpa using hk
    rw [hkm] at hB hO
    simp only [List.length_nil, onlyB, decide_eq_true_eq] at hO
    refine ⟨fun h0 => (by rw [hO] at h0; cases h0), fun i hi => ?_⟩
    rw [hO] at hi
    have him : i = m := by simpa using hi
    rw [him]
    exact ⟨by omega, hT listed a hB h⟩
  | cons o l ih =>
    intro k listed a hl hk inv hB hO h
    have h0 : ops[k]? = some o := by simpa using (hl 0 (by simp)).symm
    rw [List.length_cons] at hB hO hk
    have hB2 : ((Region.ready md ops listed).contains k && Region.free md ops listed k && Region.lexHead md ops g (l.length + 1) (k + 1) (listed.setIfInBounds k true)) = true := hB
    simp only [Bool.and_eq_true] at hB2
    obtain ⟨⟨hr, hf⟩, hB'⟩ := hB2
    have hr' : k ∈ Region.ready md ops listed := by simpa using hr
    obtain ⟨v, hy, hK⟩ := h
    refine heldAny_take h0 (Region.noSelect_spec hsel) (fun c a w => hQ c a _ _ w) hs hc hn (by omega) hdone (l.length + 1) listed a w inv (Region.free_spec h0 hf) hr' hy hS ?_
    exact ih (k + 1) _ _ (fun j hj => by have := hl (j + 1) (by simp; omega); simpa [Nat.add_assoc, Nat.add_comm 1 j] using this) (by omega) (inv.set hr' (by omega)) hB' hO hK
theorem wp_region_reads_tail {id : Nat} {a : Act} {w : World} {l : List Oper} (m : Nat) (hm : P.follows .mixedOrders = true) (hB : Region.lexTailB .any l.toArray (m + 1) = true) (hO : onlyB .any l.toArray m 0 (Array.replicate l.toArray.size false) = true)
    (hQ : ∀ c a d v w, Q (.panic c) (Act.put a d v) w → Q (.panic c) a w) (hS : S { w with drawn := w.drawn + 1 })
    (h : wpReads P l.toArray S (fun a' => wpOp P l.toArray Q m (fun a'' w' => S w' ∧ wpList P l.toArray Q (l.drop (m + 1)) a'' w') a' { w with drawn := w.drawn + 1 }) (l.take m) a) : (Code.region id l.toArray true).wp P Q a w := by
  simp only [Region.lexTailB, Bool.and_eq_true, decide_eq_true_eq] at hB
  obtain ⟨⟨⟨⟨hsel, hn⟩, hs⟩, hc⟩, hlex⟩ := hB
  have hnl : m + 1 < l.length := by simpa using hn
  have htl : (l.take m).length = m := by rw [List.length_take]; omega
  have hdl : (l.drop (m + 1)).length = l.toArray.size - (m + 1) := by simp
  have inv0 : HeadInv .any l.toArray (m + 1) (Array.replicate l.toArray.size false) :=
    ⟨by simp, fun j oj _ hl => (by rw [getD_replicate_false] at hl; cases hl), fun t _ ht => getD_in (by simpa using ht) (getD_replicate_false _ _)⟩
  have H := heldAny_of_reads (md := .any) (g := l.toArray.size - (m + 1)) (m := m) (L := fun listed' a' w' => Region.seqB .any l.toArray (l.toArray.size - (m + 1)) (m + 1) listed' = true ∧ wpList P l.toArray Q (l.drop (m + 1)) a' w') hQ hsel hs hc hn rfl hS
    (fun _ _ _ hL => seqB_ready hL.1) (fun listed a' hB' hT => by
      have hB2 : ((Region.ready .any l.toArray listed).contains m && Region.free .any l.toArray listed m && Region.seqB .any l.toArray (l.toArray.size - (m + 1)) (m + 1) (listed.setIfInBounds m true)) = true := hB'
      simp only [Bool.and_eq_true] at hB2
      exact wpOp_mono (fun a'' w'' h'' => ⟨h''.1, hB2.2, h''.2⟩) hT) (l.take m) 0 _ a (fun j hj => by
    rw [htl] at hj
    simp [hj]) (by simpa using htl) inv0 (by rw [htl]; exact hlex) (by rw [htl]; exact hO) h
  refine wp_region_any hm ?_
  have key := any_of_heldAny (Q := Q) (g := l.toArray.size - (m + 1)) (fun listed a' w' hL => by
    have := wpAny_of_seq (md := .any) (Q' := Q) (l.drop (m + 1)) (m + 1) listed a' w' (fun j => by simp [List.getElem?_drop]) (by rw [hdl]; exact hL.1) hL.2
    rwa [hdl] at this) _ _ _ _ H
  rw [htl, show m + 1 + (l.toArray.size - (m + 1)) = l.toArray.size by omega] at key
  exact key
theorem wp_region_reads_call {id : Nat} {a : Act} {w : World} {l : List Oper} {o : Oper} (m : Nat) (ho : l.toArray[m]? = some o) (hm : P.follows .mixedOrders = true) (hB : Region.lexTailB .any l.toArray (m + 1) = true) (hO : onlyB .any l.toArray m 0 (Array.replicate l.toArray.size false) = true)
    (hQ : ∀ c a d v w, Q (.panic c) (Act.put a d v) w → Q (.panic c) a w)
    (h : wpReads P l.toArray (fun w' => ∃ p : Regrown, w' = grow (redrawn w p.d) p.os) (fun a' => ∀ K : Act → World → Prop, (∀ a'' w', Below w.heap.size w w' → wpList P l.toArray Q (l.drop (m + 1)) a'' w' → K a'' w') →
      if Region.wanted o (yielded l.toArray a'.tmps) = true then Oper.wp P o a' w.drew K Q else K (a'.put o.dst undef) w.drew) (l.take m) a) : (Code.region id l.toArray true).wp P Q a w := by
  refine wp_region_reads_tail (S := fun w' => ∃ p : Regrown, w' = grow (redrawn w p.d) p.os) m hm hB hO hQ ⟨⟨w.drawn + 1, #[]⟩, by rw [grow_empty]; rfl⟩ ?_
  have mono : ∀ (l' : List Oper) (a : Act) {T T' : Act → Prop}, (∀ a, T a → T' a) → wpReads P l.toArray (fun w' => ∃ p : Regrown, w' = grow (redrawn w p.d) p.os) T l' a → wpReads P l.toArray (fun w' => ∃ p : Regrown, w' = grow (redrawn w p.d) p.os) T' l' a := by
    intro l'
    induction l' with
    | nil => intro a T T' hT h; exact hT _ h
    | cons o l' ih =>
      intro a T T' hT h
      obtain ⟨v, hy, h⟩ := h
      exact ⟨v, hy, ih _ hT h⟩
  refine mono _ _ (fun a' h' => ?_) h
  refine wpOp_step ho (fun K hK => h' K (fun a'' w'' hb hw => hK a'' w'' ⟨regrown_of_below hb, hw⟩))
end
open Go.RowKit Go.Sort
theorem below_after {w w1 : World} {B : Nat} (hB : B ≤ w.heap.size) (hb : Below w.drew.heap.size w.drew w1) : Below B w w1 := (Below.refl B w).drew.trans (hb.mono hB)
end Go.Proofs.YtoaggmegmgdgbaaGreat
