/- The document's numbers (filigreeref02): digits, at, times, ended, Mul. · The document's numbers (filigreeref02): Cmp, Sub, Pow. · The document's answer: filigreeref02.Pow; filigreeref21.Kind, Count. · The document's answer: filigreeref21.All; AngleAll: the walk. -/
import Derived.Test.YtbddlbhanpjdnaaGreatDoorRefA
import Derived.BigQuiet
import Derived.Test.YtbddlbhanpjdnaaGreatDoorCntP
import Derived.Deep.CutBlock
namespace Go.Proofs.YtbddlbhanpjdnaaGreatDoor
open Go.RowKit Go.Sort

/-- The value of digits to the base 256, the lowest first. -/
def vb (l : List Nat) : Nat := be l.reverse
theorem vb_nil : vb [] = 0 := rfl
theorem vb_cons (x : Nat) (l : List Nat) : vb (x :: l) = x + 256 * vb l := by
  unfold vb
  rw [List.reverse_cons, be_snoc]
  omega
theorem vb_snoc (l : List Nat) (x : Nat) : vb (l ++ [x]) = vb l + 256 ^ l.length * x := be_rev_snoc l x
theorem vb_lt {l : List Nat} (h : ∀ x, x ∈ l → x < 256) : vb l < 256 ^ l.length := by
  have := be_lt (l := l.reverse) (fun x hx => h x (List.mem_reverse.1 hx))
  rwa [List.length_reverse] at this
theorem vb_rev (l : List Nat) : vb l.reverse = be l := by unfold vb; rw [List.reverse_reverse]
theorem vb_set : ∀ {l : List Nat} {j y : Nat} (x : Nat), l[j]? = some y → vb (l.set j x) + 256 ^ j * y = vb l + 256 ^ j * x
  | [], j, y, x, h => by simp at h
  | a :: l, 0, y, x, h => by
    simp at h
    subst h
    rw [List.set_cons_zero, vb_cons, vb_cons]
    omega
  | a :: l, j + 1, y, x, h => by
    have ih := vb_set (l := l) (j := j) (y := y) x (by simpa using h)
    rw [List.set_cons_succ, vb_cons, vb_cons, Nat.pow_succ]
    have e1 : 256 ^ j * 256 * y = 256 * (256 ^ j * y) := by ac_rfl
    have e2 : 256 ^ j * 256 * x = 256 * (256 ^ j * x) := by ac_rfl
    rw [e1, e2]
    omega
theorem vb_zeros : ∀ n, vb (List.replicate n 0) = 0
  | 0 => rfl
  | n + 1 => by rw [List.replicate_succ, vb_cons, vb_zeros n]
theorem vb_drop {l : List Nat} {k x : Nat} (h : l[k]? = some x) : vb (l.drop k) = x + 256 * vb (l.drop (k + 1)) := by
  have hlt := lt_of_getElem? h
  have e : l[k] = x := by rw [List.getElem?_eq_getElem hlt] at h; exact Option.some.inj h
  rw [List.drop_eq_getElem_cons hlt, vb_cons, e]
theorem vb_drop_end {l : List Nat} {k : Nat} (h : l.length ≤ k) : vb (l.drop k) = 0 := by rw [List.drop_eq_nil_of_le h]; rfl
theorem vb_take {l : List Nat} {k x : Nat} (h : l[k]? = some x) : vb (l.take (k + 1)) = vb (l.take k) + 256 ^ k * x := by
  have hlt := lt_of_getElem? h
  have e : l[k] = x := by rw [List.getElem?_eq_getElem hlt] at h; exact Option.some.inj h
  rw [List.take_succ_eq_append_getElem hlt, vb_snoc, e, List.length_take, Nat.min_eq_left (by omega)]

/-- The outcome: digits that can be read. -/
def RetDig (l : List Nat) (w : World) (e : Ending) (w' : World) : Prop := ∃ v, e = .returned v ∧ Rd .i64 3 w' v l ∧ Below w.heap.size w w'

/-- make([]int, n) -/
theorem make_int (n : Nat) (hn : n ≤ 4294967296) (w : World) :
    (Instr.makeSlice 78 (.int .i64 (n : Int)) (.int .i64 (n : Int))).run Tryz.prog w = .ok (.slice (some ⟨w.heap.size, 0, none⟩) n n) (w.alloc (.cells (ivs .i64 (List.replicate n 0)).toArray 3)) := by
  obtain ⟨i, hi, hz0, hz1, hz2⟩ := info_parts info_int
  have h1 : (i.bytes : Int) * (n : Int) ≤ 281474976710656 := by rw [hz2]; omega
  have hr := run_make (P := Tryz.prog) w 78 3 i _ Tryz.underlying78 hi hz0 .i64 .i64 n n (by omega) (Int.le_refl _) h1 (by omega)
  simp only [Int.toNat_natCast, hz1, Nat.mul_one] at hr
  rw [hr, show (Value.int IntKind.i64 0).cells = #[Value.int IntKind.i64 0] from rfl, made_zeros]

theorem ts_step {O : List Nat} {j c x y z V V' T : Nat} (hT : vb O + 256 ^ j * (c + x * V) = T) (hV : V = y + 256 * V') (hz : O[j]? = some z) :
    vb (O.set j ((c + z + x * y) % 256)) + 256 ^ (j + 1) * ((c + z + x * y) / 256 + x * V') = T := by
  have h1 := vb_set ((c + z + x * y) % 256) hz
  obtain ⟨S, hS⟩ : ∃ S, S = c + z + x * y := ⟨_, rfl⟩
  rw [← hS] at h1 ⊢
  have h2 : 256 * (S / 256) + S % 256 = S := Nat.div_add_mod S 256
  have h3 : 256 ^ (j + 1) * (S / 256 + x * V') = 256 ^ j * (256 * (S / 256)) + 256 ^ j * (256 * (x * V')) := by
    rw [Nat.pow_succ, Nat.mul_add, Nat.mul_assoc, Nat.mul_assoc]
  have h4 : c + x * V = c + x * y + 256 * (x * V') := by
    rw [hV, Nat.mul_add]
    have : x * (256 * V') = 256 * (x * V') := by ac_rfl
    omega
  rw [h4, Nat.mul_add, Nat.mul_add] at hT
  have h5 : 256 ^ j * S = 256 ^ j * (256 * (S / 256)) + 256 ^ j * (S % 256) := by rw [← Nat.mul_add, h2]
  have h6 : 256 ^ j * S = 256 ^ j * c + 256 ^ j * z + 256 ^ j * (x * y) := by rw [hS, Nat.mul_add, Nat.mul_add]
  rw [h3]
  have h7 : 256 ^ j * (c + x * y) = 256 ^ j * c + 256 ^ j * (x * y) := Nat.mul_add _ _ _
  omega
theorem ts_room {j m c A T R : Nat} (hT : A + 256 ^ j * (c + R) = T) (hc : 0 < c) (hm : T < 256 ^ m) : j < m := by
  rcases Nat.lt_or_ge j m with h | h
  · exact h
  · exfalso
    have h1 : 256 ^ m ≤ 256 ^ j := Nat.pow_le_pow_right (by omega) h
    have h2 : 256 ^ j * 1 ≤ 256 ^ j * (c + R) := Nat.mul_le_mul_left _ (by omega)
    omega

end Go.Proofs.YtbddlbhanpjdnaaGreatDoor

namespace Go.Proofs.YtbddlbhanpjdnaaGreatDoor
open Go.RowKit Go.Sort

theorem nb_len_lt {a b : Nat} (h : (nb a).length < (nb b).length) : a < b := by
  have hb : 0 < b := by
    rcases Nat.eq_zero_or_pos b with h0 | h0
    · rw [h0, nb_zero] at h; simp at h
    · exact h0
  have h1 := (nb_bounds hb).1
  rcases Nat.eq_zero_or_pos a with h0 | h0
  · omega
  · have h2 := (nb_bounds h0).2
    have h3 : 256 ^ (nb a).length ≤ 256 ^ ((nb b).length - 1) := Nat.pow_le_pow_right (by omega) (by omega)
    omega
theorem nb_len_mono {a b : Nat} (h : a ≤ b) : (nb a).length ≤ (nb b).length := by
  rcases Nat.lt_or_ge (nb b).length (nb a).length with h1 | h1
  · have := nb_len_lt h1; omega
  · exact h1
theorem be_split {L : List Nat} {i x : Nat} (h : L[i]? = some x) : be L = be (L.take i) * 256 ^ (L.length - i) + (x * 256 ^ (L.length - i - 1) + be (L.drop (i + 1))) := by
  have hlt := lt_of_getElem? h
  have e : L[i] = x := by rw [List.getElem?_eq_getElem hlt] at h; exact Option.some.inj h
  conv => lhs; rw [← List.take_append_drop i L]
  rw [be_append, List.length_drop, List.drop_eq_getElem_cons hlt, e, show x :: L.drop (i + 1) = [x] ++ L.drop (i + 1) from rfl, be_append, List.length_drop]
  congr 2
  rw [show be [x] = x by simp [be]]
  congr 2
theorem be_less {L M : List Nat} {i x y : Nat} (hM : ∀ z, z ∈ L → z < 256) (hl : L.length = M.length) (ht : L.take i = M.take i) (hx : L[i]? = some x) (hy : M[i]? = some y) (h : x < y) : be L < be M := by
  have e1 := be_split hx
  have e2 := be_split hy
  have hlt := lt_of_getElem? hx
  rw [← ht, ← hl] at e2
  have e3 := be_lt (l := L.drop (i + 1)) (fun z hz => hM z (List.mem_of_mem_drop hz))
  rw [List.length_drop, show L.length - (i + 1) = L.length - i - 1 by omega] at e3
  rw [e1, e2]
  have e4 : (x + 1) * 256 ^ (L.length - i - 1) ≤ y * 256 ^ (L.length - i - 1) := Nat.mul_le_mul_right _ h
  rw [Nat.add_mul, Nat.one_mul] at e4
  omega

theorem own_drewN {w : World} {base : Nat} {T : TypeId} {size : Nat} {v : Value} {n : Nat} {xs : List Value} (h : w.ownsRow base T size v n xs) (m : Nat) : (w.drewN m).ownsRow base T size v n xs := h
theorem vb_take2 {l : List Nat} {k x : Nat} (h : l[k]? = some x ∨ (l.length ≤ k ∧ x = 0)) : vb (l.take (k + 1)) = vb (l.take k) + 256 ^ k * x := by
  rcases h with h | ⟨h, rfl⟩
  · exact vb_take h
  · rw [List.take_of_length_le (by omega), List.take_of_length_le h]; omega
theorem vb_nb (a : Nat) : vb (nb a) = a := by
  have := be_natL a
  unfold natL at this
  exact this

end Go.Proofs.YtbddlbhanpjdnaaGreatDoor

namespace Go.Proofs.YtbddlbhanpjdnaaGreatDoor
open Go.RowKit Go.Sort

theorem natS_one : natS 1 = ⟨#[1]⟩ := by decide +kernel
theorem natS_inj {a b : Nat} (h : natS a = natS b) : a = b := by rw [← be_natS a, h, be_natS]
theorem natS_eq {a b : Nat} (h : (natS a).toList = (natS b).toList) : a = b := natS_inj (ba_eqB h)
theorem nb_pow {d j z : Nat} (hd : d ≤ 64) (h : z ≤ d ^ j) : (nb z).length ≤ j + 1 := by
  refine nb_small ?_
  have h1 : d ^ j ≤ 256 ^ j := Nat.pow_le_pow_left (by omega) _
  have h2 : 0 < 256 ^ j := Nat.pow_pos (by omega)
  rw [Nat.pow_succ]
  omega
theorem half_step (n q : Nat) : n / 2 ^ q = 2 * (n / 2 ^ (q + 1)) + n / 2 ^ q % 2 := by
  rw [Nat.pow_succ, ← Nat.div_div_eq_div_mul]
  omega

theorem one_mod {m d k : Nat} (hm : 0 < m) (hd : 1 ≤ d) : d ^ k % m = 1 % m ↔ One m d k := by
  rcases Nat.lt_or_ge 1 m with h | h
  · rw [Nat.mod_eq_of_lt h]
    exact one_iff h hd
  · obtain rfl : m = 1 := by omega
    simp [One, Nat.mod_one]

theorem sumN_last {d n : Nat} (hd : 2 ≤ d) (h1 : 1 ≤ n) (h2 : n ≤ 1024) : d ^ n - 1 - sumN d n (n - 1) = cntN d n := by
  have h := sumN_all hd h1 h2
  obtain ⟨m, rfl⟩ : ∃ m, n = m + 1 := ⟨n - 1, by omega⟩
  rw [sumN, Nat.mod_self, if_pos rfl] at h
  rw [show m + 1 - 1 = m by omega]
  omega

end Go.Proofs.YtbddlbhanpjdnaaGreatDoor

namespace Go.Proofs.YtbddlbhanpjdnaaGreatDoor
open Go.RowKit Go.Sort

theorem own_kindD {w : World} {B : Nat} {T : TypeId} {size : Nat} {v : Value} {n : Nat} {xs : List Value} (h : w.ownsRow B T size v n xs) {g : Nat} (hg : v.ownBlock = some g) : ∃ cur, w.heap[g]? = some (.cells cur T (0, 0)) ∧ B ≤ g := by
  rcases h.2 with ⟨rfl, -⟩ | ⟨g', cap, cur, rfl, hb, hh, -⟩
  · cases hg
  · injection hg with hg
    subst hg
    exact ⟨cur, hh, hb⟩
theorem own_apartD {w : World} {B B' : Nat} {T T' : TypeId} {size size' : Nat} {v v' : Value} {n n' : Nat} {xs xs' : List Value} (h : w.ownsRow B T size v n xs) (h' : w.ownsRow B' T' size' v' n' xs') (hT : T ≠ T') : ∀ g, v.ownBlock = some g → v'.ownBlock ≠ some g := by
  intro g hg hg'
  obtain ⟨c, e, -⟩ := own_kindD h hg
  obtain ⟨c', e', -⟩ := own_kindD h' hg'
  rw [e] at e'
  injection e' with e'
  injection e' with _ e'
  exact hT e'

theorem keep_otherD {a b : Option Nat} (h : a ≠ none → b ≠ a) : b = none ∨ b ≠ a := by
  cases a with
  | none => cases b <;> simp
  | some g => exact .inr (h (by simp))


def rallE (d n : Nat) : Int := if cntN d n ≤ 4096 then 0 else 211
def rallR (d n : Nat) : List (Nat × Nat) := if cntN d n ≤ 4096 then allL d n else []

end Go.Proofs.YtbddlbhanpjdnaaGreatDoor
