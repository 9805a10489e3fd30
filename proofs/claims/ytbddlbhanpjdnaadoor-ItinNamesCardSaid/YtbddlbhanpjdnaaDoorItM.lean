/- Slices of bytes at the head of a block of the call's own. -/
import Derived.Test.YtbddlbhanpjdnaaDoorRowP
import Derived.Test.YtbddlbhanpjdnaaDoorApp
import Derived.Test.YtbddlbhanpjdnaaDoorNatC
import Derived.Test.YtbddlbhanpjdnaaDoorShelf
namespace Go.Proofs.YtbddlbhanpjdnaaDoor
open Go.RowKit

/-- The slice v reads as the bytes l; if there are any, it lies at the head of a block from B on, which is not frozen. -/
def Pf (w : World) (B : Nat) (v : Value) (l : List Nat) : Prop :=
  ∃ (A : Option Addr) (c : Nat), v = .slice A l.length c ∧ l.length ≤ c ∧ c ≤ maxLen ∧
    (l ≠ [] → ∃ (g : Nat) (cur : Array Value), A = some ⟨g, 0, none⟩ ∧ B ≤ g ∧ w.heap[g]? = some (.cells cur 5 (0, 0)) ∧ ∀ (j x : Nat), l[j]? = some x → cur[j]? = some (Value.int .u8 (x : Int)))

section
variable {w w' : World} {B : Nat} {v : Value} {l : List Nat}
theorem heap_lt {W : World} {g : Nat} {o : Obj} (h : W.heap[g]? = some o) : g < W.heap.size := by
  rcases Nat.lt_or_ge g W.heap.size with hlt | hge
  · exact hlt
  · rw [Array.getElem?_eq_none hge] at h; cases h
theorem Pf.rd (h : Pf w B v l) : Rd .u8 5 w v l := by
  obtain ⟨A, c, rfl, h1, h2, h3⟩ := h
  refine ⟨A, c, rfl, h1, h2, fun hn => ?_⟩
  obtain ⟨g, cur, e, -, hh, hc⟩ := h3 hn
  exact ⟨g, 0, fun j => l[j]?, e, ⟨cur, (0, 0), hh, hc⟩, fun j x hj => by simpa using hj⟩
theorem Pf.keep (h : Pf w B v l) (hk : ∀ g, B ≤ g → g < w.heap.size → w'.heap[g]? = w.heap[g]?) : Pf w' B v l := by
  obtain ⟨A, c, rfl, h1, h2, h3⟩ := h
  refine ⟨A, c, rfl, h1, h2, fun hn => ?_⟩
  obtain ⟨g, cur, e, hB, hh, hc⟩ := h3 hn
  exact ⟨g, cur, e, hB, (hk g hB (heap_lt hh)).trans hh, hc⟩
theorem Pf.below (h : Pf w B v l) (hb : Below w.heap.size w w') : Pf w' B v l := h.keep fun g _ hg => hb.block g hg
theorem Pf.alloc (h : Pf w B v l) (o : Obj) : Pf (w.alloc o) B v l := h.keep fun g _ hg => Below.heap_alloc w o g hg
theorem Pf.drewN (h : Pf w B v l) (n : Nat) : Pf (w.drewN n) B v l := h
theorem Pf.le (h : Pf w B v l) {B' : Nat} (hB : B' ≤ B) : Pf w B' v l := by
  obtain ⟨A, c, rfl, h1, h2, h3⟩ := h
  refine ⟨A, c, rfl, h1, h2, fun hn => ?_⟩
  obtain ⟨g, cur, e, hB2, hh, hc⟩ := h3 hn
  exact ⟨g, cur, e, Nat.le_trans hB hB2, hh, hc⟩
theorem Pf.of_own {n : Nat} (h : w.ownsRow B 5 1 v n (ivs .u8 l)) : Pf w B v l := by
  have hn := own_len h
  rcases h.2 with ⟨rfl, h0⟩ | ⟨g, cap, cur, rfl, hB, hh, h1, h2, h3, h4⟩
  · have : l = [] := List.length_eq_zero_iff.1 (by omega)
    subst this
    exact ⟨none, 0, rfl, Nat.le_refl _, Nat.zero_le _, fun h => absurd rfl h⟩
  · subst hn
    refine ⟨_, cap, rfl, h1, h2, fun _ => ⟨g, cur, rfl, hB, hh, fun j x hj => ?_⟩⟩
    have hjl := lt_of_getElem? hj
    have e : (ivs .u8 l)[j]? = some (.int .u8 (x : Int)) := ivs_get hj
    rw [← h4, List.getElem?_take_of_lt (by omega)] at e
    simpa using e
theorem Pf.nil_ (w : World) (B : Nat) (A : Option Addr) (c : Nat) (hc : c ≤ maxLen) : Pf w B (.slice A 0 c) [] := ⟨A, c, rfl, Nat.zero_le _, hc, fun h => absurd rfl h⟩
/-- A shorter one at the same head. -/
theorem Pf.take {A : Option Addr} {m c k : Nat} (h : Pf w B (.slice A m c) l) (hk : k ≤ l.length) {c' : Nat} (hc1 : k ≤ c') (hc2 : c' ≤ maxLen) : Pf w B (.slice A k c') (l.take k) := by
  obtain ⟨A', c0, e, h1, h2, h3⟩ := h
  injection e with e1 e2 e3
  subst e1 e2 e3
  have hl : (l.take k).length = k := by rw [List.length_take]; omega
  refine ⟨A, c', by rw [hl], by omega, hc2, fun hn => ?_⟩
  obtain ⟨g, cur, e, hB, hh, hc⟩ := h3 (fun e => by subst e; simp at hn)
  refine ⟨g, cur, e, hB, hh, fun j x hj => hc j x ?_⟩
  rw [List.getElem?_take] at hj
  split at hj
  · exact hj
  · cases hj
theorem Pf.form (h : Pf w B v l) : ∃ A c, v = .slice A l.length c ∧ l.length ≤ c ∧ c ≤ maxLen := by
  obtain ⟨A, c, e, h1, h2, -⟩ := h
  exact ⟨A, c, e, h1, h2⟩
theorem Pf.open_ {A : Option Addr} {m c : Nat} (h : Pf w B (.slice A m c) l) (hn : l ≠ []) : ∃ (g : Nat) (cur : Array Value), A = some ⟨g, 0, none⟩ ∧ B ≤ g ∧ w.heap[g]? = some (.cells cur 5 (0, 0)) ∧ ∀ (j x : Nat), l[j]? = some x → w.cell? ⟨g, j, none⟩ = some (Value.int .u8 (x : Int)) := by
  obtain ⟨A', c0, e, h1, h2, h3⟩ := h
  injection e with e1 e2 e3
  subst e1
  obtain ⟨g, cur, e, hB, hh, hc⟩ := h3 hn
  exact ⟨g, cur, e, hB, hh, fun j x hj => by rw [cell_of_row w g j cur _ _ hh]; exact hc j x hj⟩
end

theorem Rd.take {k : IntKind} {T : TypeId} {w : World} {A : Option Addr} {m c n : Nat} {l : List Nat} (h : Rd k T w (.slice A m c) l) (hn : n ≤ l.length) {c' : Nat} (hc1 : n ≤ c') (hc2 : c' ≤ maxLen) : Rd k T w (.slice A n c') (l.take n) := by
  obtain ⟨A', c0, e, h1, h2, h3⟩ := h
  injection e with e1 e2 e3
  subst e1 e2 e3
  have hl : (l.take n).length = n := by rw [List.length_take]; omega
  refine ⟨A, c', by rw [hl], by omega, hc2, fun hne => ?_⟩
  obtain ⟨g, off, L, e, hr, hL⟩ := h3 (fun e => by subst e; simp at hne)
  refine ⟨g, off, L, e, hr, fun j x hj => hL j x ?_⟩
  rw [List.getElem?_take] at hj
  split at hj
  · exact hj
  · cases hj

set_option maxRecDepth 100000 in
set_option maxHeartbeats 400000 in
/-- slices.Clone, of whatever slice reads as bytes. -/
theorem clone_any {T : TypeId} (A : Option Addr) (n c : Nat) (l : List Nat) (w : World) (h : Rd .u8 T w (.slice A n c) l) (hl : l.length ≤ 140737488355328) :
    Calls Tryd.prog 49 #[.slice A n c] w fun e w' => ∃ v, e = .returned v ∧ w'.ownsRow w.heap.size 5 1 v n (ivs .u8 l) ∧ Below w.heap.size w w' := by
  obtain ⟨i0, hi, hz0, hz1, hz2⟩ := info_parts info_u8
  obtain rfl : n = l.length := by obtain ⟨A', c', e, -⟩ := h; injection e
  cases A with
  | none =>
    have h0 : l = [] := by
      by_cases hn : l = []
      · exact hn
      · obtain ⟨g, off, c', L, e, -⟩ := h.open_ hn
        cases e
    subst h0
    refine (Tryd.slices_Clone_nil _ c w).mono ?_
    rintro e w' ⟨rfl, rfl⟩
    exact ⟨_, rfl, World.ownsRow_nil _ _ _ _, Below.refl _ _⟩
  | some a =>
    obtain ⟨L, hL⟩ : ∃ L, L = l.length := ⟨_, rfl⟩
    rw [← hL] at h hl ⊢
    have q : ∀ (w : World) (a : Option Addr) (n c n' c' : Nat), (binOp .eql 26 (.slice a n c) (.slice none n' c')).run Tryd.prog w = .ok (.bool a.isNone) w := fun w a n c n' c' => Lib.run_eql_slice_nil w _ _ a n c n' c' Tryd.underlying26
    replace h := Lib.hid h
    replace hL := Lib.hid hL
    go_enter Tryd.func49, Tryd.ntmps49
    go_wp2_with (at_builtin; refine wpList_append_rd rfl _ _ 26 rfl .u8 w.heap.size 5 T i0 (.int .u8 0) 1 Tryd.underlying26 hi hz0 hz1 hz2 rfl _ 0 [] rfl (World.ownsRow_made w #[] 0 (Nat.le_refl _) (Nat.zero_le _) rfl) _ _ _ l rfl (h.out.alloc _) ?d1 ?d2 (by simp) ?_)
    case d1 => unfold maxLen; omega
    case d2 => omega
    intro v' w1 hown hgrow
    have hB : Below w.heap.size w w1 := ((Below.refl _ w).alloc (Nat.le_refl _) _).grown hgrow (by simp) (by intro k hk; simp [Value.ownBlock] at hk; omega)
    replace hown : Hid (w1.ownsRow w.heap.size 5 1 v' L (ivs .u8 l)) := Lib.hid (by simpa using hown)
    replace hB := Lib.hid hB
    clear hgrow
    go_wp2_with fail
    go_ret
    exact ⟨v', rfl, hown.out, hB.out⟩
end Go.Proofs.YtbddlbhanpjdnaaDoor
