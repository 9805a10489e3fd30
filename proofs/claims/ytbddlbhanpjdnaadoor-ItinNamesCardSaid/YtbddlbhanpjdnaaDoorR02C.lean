/- The document's answer: filigreeref02.Pow; filigreeref21.Kind, Count. · The document's answer: filigreeref21.All; AngleAll: the walk. -/
import Derived.Test.YtbddlbhanpjdnaaDoorR02A
import Derived.Test.YtbddlbhanpjdnaaDoorCntP
import Derived.Deep.CutBlock
namespace Go.Proofs.YtbddlbhanpjdnaaDoor
open Go.RowKit Go.Sort

theorem natS_one : natS 1 = ⟨#[1]⟩ := by decide +kernel
theorem natS_inj {a b : Nat} (h : natS a = natS b) : a = b := by rw [← be_natS a, h, be_natS]
theorem natS_eq {a b : Nat} (h : (natS a).toList = (natS b).toList) : a = b := natS_inj (ba_eqB h)
theorem nb_pow {d j z : Nat} (hd : d ≤ 64) (h : z ≤ d ^ j) : (nb z).length ≤ j + 1 := by
  refine nb_small ?_
  have h1 : d ^ j ≤ 256 ^ j := Nat.pow_le_pow_left (by omega) _
  have h2 : 0 < 256 ^ j := Nat.pow_pos (by omega)
  rw [Nat.pow_succ]
  omega
theorem half_step (n q : Nat) : n / 2 ^ q = 2 * (n / 2 ^ (q + 1)) + n / 2 ^ q % 2 := by
  rw [Nat.pow_succ, ← Nat.div_div_eq_div_mul]
  omega

theorem one_mod {m d k : Nat} (hm : 0 < m) (hd : 1 ≤ d) : d ^ k % m = 1 % m ↔ One m d k := by
  rcases Nat.lt_or_ge 1 m with h | h
  · rw [Nat.mod_eq_of_lt h]
    exact one_iff h hd
  · obtain rfl : m = 1 := by omega
    simp [One, Nat.mod_one]

theorem sumN_last {d n : Nat} (hd : 2 ≤ d) (h1 : 1 ≤ n) (h2 : n ≤ 1024) : d ^ n - 1 - sumN d n (n - 1) = cntN d n := by
  have h := sumN_all hd h1 h2
  obtain ⟨m, rfl⟩ : ∃ m, n = m + 1 := ⟨n - 1, by omega⟩
  rw [sumN, Nat.mod_self, if_pos rfl] at h
  rw [show m + 1 - 1 = m by omega]
  omega

end Go.Proofs.YtbddlbhanpjdnaaDoor

namespace Go.Proofs.YtbddlbhanpjdnaaDoor
open Go.RowKit Go.Sort

theorem own_kindD {w : World} {B : Nat} {T : TypeId} {size : Nat} {v : Value} {n : Nat} {xs : List Value} (h : w.ownsRow B T size v n xs) {g : Nat} (hg : v.ownBlock = some g) : ∃ cur, w.heap[g]? = some (.cells cur T (0, 0)) ∧ B ≤ g := by
  rcases h.2 with ⟨rfl, -⟩ | ⟨g', cap, cur, rfl, hb, hh, -⟩
  · cases hg
  · injection hg with hg
    subst hg
    exact ⟨cur, hh, hb⟩
theorem own_apartD {w : World} {B B' : Nat} {T T' : TypeId} {size size' : Nat} {v v' : Value} {n n' : Nat} {xs xs' : List Value} (h : w.ownsRow B T size v n xs) (h' : w.ownsRow B' T' size' v' n' xs') (hT : T ≠ T') : ∀ g, v.ownBlock = some g → v'.ownBlock ≠ some g := by
  intro g hg hg'
  obtain ⟨c, e, -⟩ := own_kindD h hg
  obtain ⟨c', e', -⟩ := own_kindD h' hg'
  rw [e] at e'
  injection e' with e'
  injection e' with _ e'
  exact hT e'

theorem keep_otherD {a b : Option Nat} (h : a ≠ none → b ≠ a) : b = none ∨ b ≠ a := by
  cases a with
  | none => cases b <;> simp
  | some g => exact .inr (h (by simp))


def rallE (d n : Nat) : Int := if cntN d n ≤ 4096 then 0 else 211
def rallR (d n : Nat) : List (Nat × Nat) := if cntN d n ≤ 4096 then allL d n else []

end Go.Proofs.YtbddlbhanpjdnaaDoor
