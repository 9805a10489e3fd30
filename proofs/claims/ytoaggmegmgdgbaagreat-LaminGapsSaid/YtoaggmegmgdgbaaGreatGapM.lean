import Derived.Test.YtoaggmegmgdgbaaGreatROpen
import Derived.Test.YtoaggmegmgdgbaaGreatAngN
import Derived.Test.YtoaggmegmgdgbaaGreatRatB
namespace Go.Proofs.YtoaggmegmgdgbaaGreat
def LowF (a : Int) (b : Nat) : Prop := 0 < b ∧ Nat.gcd a.natAbs b = 1
def Un (M : Nat) (a : Int) (b : Nat) (t : Int) : Prop := a * (M : Int) = t * (b : Int)
theorem low_split (a : Int) (b : Nat) : a = lowN a b * ((Nat.gcd a.natAbs b : Nat) : Int) ∧ b = lowD a b * Nat.gcd a.natAbs b := by
  refine ⟨?_, (Nat.div_mul_cancel (Nat.gcd_dvd_right _ _)).symm⟩
  have h : ((Nat.gcd a.natAbs b : Nat) : Int) ∣ a := Int.natAbs_dvd_natAbs.1 (by rw [Int.natAbs_natCast]; exact Nat.gcd_dvd_left _ _)
  exact (Int.ediv_mul_cancel h).symm
theorem low_pos {a : Int} {b : Nat} (hb : 0 < b) : 0 < lowD a b := by
  have h := (low_split a b).2
  rcases Nat.eq_zero_or_pos (lowD a b) with h0 | h0
  · rw [h0] at h; omega
  · exact h0
theorem low_le (a : Int) (b : Nat) : lowD a b ≤ b := Nat.div_le_self _ _
theorem low_low {a : Int} {b : Nat} (hb : 0 < b) : LowF (lowN a b) (lowD a b) := by
  refine ⟨low_pos hb, ?_⟩
  have hg : 0 < Nat.gcd a.natAbs b := Nat.gcd_pos_of_pos_right _ hb
  have h1 : (lowN a b).natAbs = a.natAbs / Nat.gcd a.natAbs b := by
    have h := congrArg Int.natAbs (low_split a b).1
    rw [Int.natAbs_mul, Int.natAbs_natCast] at h
    exact (Nat.div_eq_of_eq_mul_left hg h).symm
  rw [h1, lowD]
  rw [Nat.gcd_div (Nat.gcd_dvd_left _ _) (Nat.gcd_dvd_right _ _)]
  exact Nat.div_self hg
theorem Un.low {M : Nat} {a : Int} {b : Nat} {t : Int} (hb : 0 < b) (h : Un M a b t) : Un M (lowN a b) (lowD a b) t := by
  obtain ⟨h1, h2⟩ := low_split a b
  have hg : 0 < Nat.gcd a.natAbs b := Nat.gcd_pos_of_pos_right _ hb
  unfold Un at *
  generalize lowN a b = x at *
  generalize lowD a b = y at *
  generalize Nat.gcd a.natAbs b = g at *
  subst h2
  rw [h1] at h
  have hg' : (g : Int) ≠ 0 := by omega
  apply Int.eq_of_mul_eq_mul_right hg'
  rw [Int.natCast_mul] at h
  grind
theorem Un.add {M : Nat} {a c : Int} {b d : Nat} {s t : Int} (h : Un M a b s) (h' : Un M c d t) : Un M (a * d + c * b) (b * d) (s + t) := by
  unfold Un at *
  rw [Int.natCast_mul]
  grind
theorem Un.neg {M : Nat} {a : Int} {b : Nat} {t : Int} (h : Un M a b t) : Un M (-a) b (-t) := by unfold Un at *; grind
theorem Un.one (M : Nat) : Un M 1 1 (M : Int) := by unfold Un; omega
theorem Un.zero (M : Nat) : Un M 0 1 0 := by unfold Un; omega
theorem Un.le {M : Nat} {a : Int} {b : Nat} {t : Int} (hM : 0 < M) (h : Un M a b t) (ht : -(M : Int) ≤ t ∧ t ≤ (M : Int)) : a.natAbs ≤ b := by
  unfold Un at h
  have h1 : -((b : Int)) ≤ a := by
    apply Int.le_of_mul_le_mul_right (a := (M : Int)) _ (by omega)
    rw [h]
    have := Int.mul_le_mul_of_nonneg_right ht.1 (Int.natCast_nonneg b)
    grind
  have h2 : a ≤ (b : Int) := by
    apply Int.le_of_mul_le_mul_right (a := (M : Int)) _ (by omega)
    rw [h]
    have := Int.mul_le_mul_of_nonneg_right ht.2 (Int.natCast_nonneg b)
    grind
  omega
theorem Un.whole {M : Nat} {a : Int} {b : Nat} (hM : 0 < M) (hl : LowF a b) (h : Un M a b (M : Int)) : a = 1 ∧ b = 1 := by
  unfold Un at h
  have e : a = b := by
    apply Int.eq_of_mul_eq_mul_right (show (M : Int) ≠ 0 by omega)
    rw [h, Int.mul_comm]
  obtain ⟨h1, h2⟩ := hl
  rw [e, Int.natAbs_natCast, Nat.gcd_self] at h2
  subst h2
  exact ⟨e, rfl⟩
def mulD (E : List PT) : Nat := (E.map Prod.snd).foldr (· * ·) 1
theorem mulD_dvd : ∀ {E : List PT} {e : PT}, e ∈ E → e.2 ∣ mulD E
  | x :: E, e, h => by
    have hx : mulD (x :: E) = x.2 * mulD E := rfl
    rw [hx]
    rcases List.mem_cons.1 h with rfl | h
    · exact Nat.dvd_mul_right _ _
    · exact Nat.dvd_trans (mulD_dvd h) (Nat.dvd_mul_left _ _)
theorem mulD_pos : ∀ {E : List PT}, (∀ e, e ∈ E → Ang e) → 0 < mulD E
  | [], _ => Nat.one_pos
  | x :: E, h => by
    have hx : mulD (x :: E) = x.2 * mulD E := rfl
    rw [hx]
    have := (h x (List.mem_cons_self ..)).2.1
    exact Nat.mul_pos (by omega) (mulD_pos fun e he => h e (List.mem_cons_of_mem _ he))
def un (M : Nat) (e : PT) : Nat := e.1 * (M / e.2)
theorem un_un {M : Nat} {e : PT} (hd : e.2 ∣ M) : Un M (e.1 : Int) e.2 (un M e : Int) := by
  unfold Un un
  obtain ⟨k, rfl⟩ := hd
  rcases Nat.eq_zero_or_pos e.2 with h | h
  · simp [h]
  · rw [Nat.mul_div_cancel_left _ h, Int.natCast_mul, Int.natCast_mul]; grind
theorem un_lt {M : Nat} {e : PT} (he : Ang e) (hM : 0 < M) (hd : e.2 ∣ M) : un M e < M := by
  unfold un
  obtain ⟨k, rfl⟩ := hd
  have h := he.2.1
  have h0 : 0 < e.2 := by omega
  rw [Nat.mul_div_cancel_left _ h0]
  have hk : 0 < k := Nat.pos_of_mul_pos_left hM
  exact Nat.mul_lt_mul_of_pos_right h hk
theorem un_mono {M : Nat} {e f : PT} (he : Ang e) (hf : Ang f) (hM : 0 < M) (hd : e.2 ∣ M) (hd' : f.2 ∣ M) : un M e < un M f ↔ e.1 * f.2 < f.1 * e.2 := by
  have h0 : 0 < e.2 := by have := he.2.1; omega
  have h1 : 0 < f.2 := by have := hf.2.1; omega
  have e1 : un M e * e.2 = e.1 * M := by unfold un; rw [Nat.mul_assoc, Nat.div_mul_cancel hd]
  have e2 : un M f * f.2 = f.1 * M := by unfold un; rw [Nat.mul_assoc, Nat.div_mul_cancel hd']
  have h2 : 0 < e.2 * f.2 := Nat.mul_pos h0 h1
  rw [← Nat.mul_lt_mul_right (a := e.2 * f.2) h2]
  have e3 : un M e * (e.2 * f.2) = (e.1 * f.2) * M := by grind
  have e4 : un M f * (e.2 * f.2) = (f.1 * e.2) * M := by grind
  rw [e3, e4, Nat.mul_lt_mul_right hM]
def arcU (M : Nat) (x : PT × PT) : Nat := if un M x.2 ≤ un M x.1 then un M x.2 + M - un M x.1 else un M x.2 - un M x.1
def sumU (M : Nat) (G : List (List (PT × PT))) : Nat := (G.map fun g => (g.map (arcU M)).sum).sum
theorem sum_mod (f : (PT × PT) → Nat) (x : PT × PT) : ∀ (l : List (List (PT × PT))) (i : Nat), i < l.length → ((l.modify i (· ++ [x])).map fun g => (g.map f).sum).sum = (l.map fun g => (g.map f).sum).sum + f x
  | [], i, h => by simp at h
  | g :: l, 0, _ => by simp [List.modify]; omega
  | g :: l, i + 1, h => by
    have ih := sum_mod f x l i (by simpa using h)
    simp only [List.modify_succ_cons, List.map_cons, List.sum_cons, ih]; omega
theorem tele (M n : Nat) (u : Nat → Nat) (hn : 0 < n) (hu : ∀ i j, i < j → j < n → u i < u j) (hM : ∀ i, i < n → u i < M) :
    ((List.range n).map fun k => if u ((k + 1) % n) ≤ u k then u ((k + 1) % n) + M - u k else u ((k + 1) % n) - u k).sum = M := by
  obtain ⟨m, rfl⟩ : ∃ m, n = m + 1 := ⟨n - 1, by omega⟩
  rw [List.range_succ, List.map_append, List.sum_append]
  have h1 : ∀ k, k ≤ m → ((List.range k).map fun k => if u ((k + 1) % (m + 1)) ≤ u k then u ((k + 1) % (m + 1)) + M - u k else u ((k + 1) % (m + 1)) - u k).sum = u k - u 0 := by
    intro k
    induction k with
    | zero => intro _; simp
    | succ k ih =>
      intro hk
      rw [List.range_succ, List.map_append, List.sum_append, ih (by omega)]
      have e : (k + 1) % (m + 1) = k + 1 := Nat.mod_eq_of_lt (by omega)
      have := hu k (k + 1) (by omega) (by omega)
      have h0 : u 0 ≤ u k := by
        rcases Nat.eq_zero_or_pos k with h | h
        · subst h; exact Nat.le_refl _
        · exact Nat.le_of_lt (hu 0 k h (by omega))
      simp only [List.map_cons, List.map_nil, List.sum_cons, List.sum_nil, e, Nat.not_le.2 this, if_false]
      omega
  rw [h1 m (Nat.le_refl _)]
  have h0 : u 0 ≤ u m := by
    rcases Nat.eq_zero_or_pos m with h | h
    · subst h; exact Nat.le_refl _
    · exact Nat.le_of_lt (hu 0 m h (by omega))
  have := hM m (by omega)
  simp only [List.map_cons, List.map_nil, List.sum_cons, List.sum_nil, Nat.mod_self, h0, if_true]
  omega
theorem sumU_grp {α : Type} [DecidableEq α] {κ : Nat → α} (M : Nat) (arc : Nat → PT × PT) : ∀ k, sumU M (grpG κ arc k) = ((List.range k).map fun j => arcU M (arc j)).sum
  | 0 => rfl
  | k + 1 => by
    have ih := sumU_grp (κ := κ) M arc k
    rw [List.range_succ, List.map_append, List.sum_append, ← ih]
    by_cases hm : κ k ∈ (repsG κ k).map κ
    · obtain ⟨i, hi, e⟩ := List.mem_iff_getElem.1 hm
      rw [List.getElem_map] at e
      have hi' : i < (repsG κ k).length := by simpa using hi
      rw [grpG_old hi' e]
      unfold sumU
      rw [sum_mod _ _ _ _ (by rw [grpG_len]; exact hi')]
      simp
    · rw [grpG_new hm]
      unfold sumU
      rw [List.map_append, List.sum_append]
      simp
theorem grpG_mem {α β : Type} [DecidableEq α] {κ : Nat → α} {arc : Nat → β} {k : Nat} {g : List β} {x : β} (hg : g ∈ grpG κ arc k) (hx : x ∈ g) : ∃ j, j < k ∧ x = arc j := by
  obtain ⟨r, -, rfl⟩ := List.mem_map.1 hg
  obtain ⟨j, hj, rfl⟩ := List.mem_map.1 hx
  exact ⟨j, List.mem_range.1 (List.mem_filter.1 hj).1, rfl⟩
theorem endsR_pos {L : List Lf} (h : L ≠ []) : 0 < (endsR L).length := by
  have ht : 0 < L.length := List.length_pos_iff.2 h
  obtain ⟨⟨i, hi, -⟩, -⟩ := endsR_at ht
  omega
theorem endsR_mem {L : List Lf} {i : Nat} (hi : i < (endsR L).length) : (endsR L)[i]! ∈ endsR L := by rw [getElem!_pos (endsR L) i hi]; exact List.getElem_mem hi
structure ArcOk (M : Nat) (x : PT × PT) : Prop where
  a : Ang x.1
  b : Ang x.2
  da : x.1.2 ∣ M
  db : x.2.2 ∣ M
theorem gaps_sum {L : List Lf} (hL : LOk L) : ∃ M, 0 < M ∧ (∀ g, g ∈ gapsL L → ∀ x, x ∈ g → ArcOk M x) ∧ sumU M (gapsL L) = M := by
  by_cases h : L = []
  · subst h
    refine ⟨1, Nat.one_pos, fun g hg x hx => ?_, by decide⟩
    have e : gapsL [] = [[((0, 1), (0, 1))]] := rfl
    rw [e, List.mem_singleton] at hg
    subst hg
    rw [List.mem_singleton] at hx
    subst hx
    exact ⟨by unfold Ang; decide, by unfold Ang; decide, Nat.dvd_refl _, Nat.dvd_refl _⟩
  · have hn := endsR_pos h
    have hE := endsR_ang hL
    have hM := mulD_pos hE
    have hmod : ∀ k, (k + 1) % (endsR L).length < (endsR L).length := fun k => Nat.mod_lt _ hn
    refine ⟨mulD (endsR L), hM, fun g hg x hx => ?_, ?_⟩
    · rw [gapsL_form h] at hg
      obtain ⟨j, hj, rfl⟩ := grpG_mem hg hx
      exact ⟨hE _ (endsR_mem hj), hE _ (endsR_mem (hmod j)), mulD_dvd (endsR_mem hj), mulD_dvd (endsR_mem (hmod j))⟩
    · rw [gapsL_form h, sumU_grp]
      refine tele (mulD (endsR L)) (endsR L).length (fun k => un (mulD (endsR L)) (endsR L)[k]!) hn (fun i j hij hj => ?_) (fun i hi => ?_)
      · have hi : i < (endsR L).length := by omega
        rw [un_mono (hE _ (endsR_mem hi)) (hE _ (endsR_mem hj)) hM (mulD_dvd (endsR_mem hi)) (mulD_dvd (endsR_mem hj)), ← cmpP_lt, ky_lt (hE _ (endsR_mem hi)) (hE _ (endsR_mem hj)), endsR_lt hL hi hj]
        exact hij
      · exact un_lt (hE _ (endsR_mem hi)) hM (mulD_dvd (endsR_mem hi))
theorem nodup_le : ∀ (N : Nat) (l : List Nat), l.Nodup → (∀ x, x ∈ l → x < N) → l.length ≤ N
  | 0, l, _, h => by
    cases l with
    | nil => exact Nat.le_refl _
    | cons a r => exact absurd (h a (List.mem_cons_self ..)) (Nat.not_lt_zero _)
  | N + 1, l, hd, h => by
    have h1 := nodup_le N (l.erase N) (hd.erase N) (fun x hx => by
      have h2 := (List.Nodup.mem_erase_iff hd).1 hx
      have := h x h2.2
      have := h2.1
      omega)
    rw [List.length_erase] at h1
    split at h1 <;> omega
theorem nodup_inj {α : Type} {l : List α} (hn : l.Nodup) {i j : Nat} {hi : i < l.length} {hj : j < l.length} (h : l[i] = l[j]) : i = j := by
  rcases Nat.lt_trichotomy i j with h1 | h1 | h1
  · exact absurd h (List.pairwise_iff_getElem.1 hn i j hi hj h1)
  · exact h1
  · exact absurd h.symm (List.pairwise_iff_getElem.1 hn j i hj hi h1)
theorem topK_bd {L : List Lf} (hL : LOk L) {k : Nat} (hk : k < (endsR L).length) : -1 ≤ topK L k ∧ topK L k < (L.length : Int) := by
  have hp := gapSt_post hL k hk
  unfold topK
  cases e : (gapSt L (k + 1)).pile with
  | nil => simp only [topG]; omega
  | cons t r =>
    have := ((hp.pile t).1 (by rw [e]; exact List.mem_cons_self ..)).1
    simp only [topG]; omega
theorem gaps_len {L : List Lf} (hL : LOk L) : (gapsL L).length ≤ L.length + 1 ∧ 0 < (gapsL L).length := by
  by_cases h : L = []
  · subst h; exact ⟨by decide, by decide⟩
  · have hn := endsR_pos h
    rw [gapsL_form h, grpG_len]
    constructor
    · have h1 := nodup_le (L.length + 1) (((repsG (topK L) (endsR L).length).map (topK L)).map fun x => (x + 1).toNat) (by
        refine List.Pairwise.map _ (R := fun a b => a ≠ b ∧ (-1 ≤ a ∧ a < (L.length : Int)) ∧ (-1 ≤ b ∧ b < (L.length : Int))) (fun a b hab => by omega) ?_
        refine (List.Pairwise.and_mem.1 (repsG_nodup (κ := topK L) (endsR L).length)).imp fun {a b} hab => ⟨hab.2.2, ?_, ?_⟩
        · obtain ⟨r, hr, rfl⟩ := List.mem_map.1 hab.1
          exact topK_bd hL (repsG_lt _ _ hr)
        · obtain ⟨r, hr, rfl⟩ := List.mem_map.1 hab.2.1
          exact topK_bd hL (repsG_lt _ _ hr)) (fun x hx => by
        obtain ⟨y, hy, rfl⟩ := List.mem_map.1 hx
        obtain ⟨r, hr, rfl⟩ := List.mem_map.1 hy
        have := topK_bd hL (repsG_lt _ _ hr)
        omega)
      simpa using h1
    · have h1 := repsG_mem (κ := topK L) (endsR L).length 0 hn
      obtain ⟨r, hr, -⟩ := List.mem_map.1 h1
      exact List.length_pos_of_mem hr
def inA (a : PT) (x : PT × PT) : Bool := betw x.1.1 x.1.2 a.1 a.2 x.2.1 x.2.2
def insG (G : List (List (PT × PT))) (a : PT) : Int := if G.findIdx (fun g => g.any (inA a)) < G.length then (G.findIdx (fun g => g.any (inA a)) : Int) else -1
theorem mul_ky {p q : PT} (hp : Ang p) (hq : Ang q) : (p.1 * q.2 < q.1 * p.2 ↔ ky p < ky q) ∧ (p.1 * q.2 = q.1 * p.2 ↔ ky p = ky q) := by
  have h1 := ky_lt hp hq
  have h2 := ky_lt hq hp
  rw [cmpP_lt] at h1 h2
  refine ⟨h1, ?_⟩
  have e : ∀ {x y k l : Nat}, (x < y ↔ k < l) → (y < x ↔ l < k) → (x = y ↔ k = l) := by intro x y k l; omega
  exact e h1 h2
theorem inA_ky {a : PT} {x : PT × PT} (ha : Ang a) (h1 : Ang x.1) (h2 : Ang x.2) : inA a x = true ↔ if ky x.1 < ky x.2 then ky x.1 < ky a ∧ ky a < ky x.2 else if ky x.2 < ky x.1 then ky x.1 < ky a ∨ ky a < ky x.2 else ky x.1 ≠ ky a := by
  unfold inA betw
  have e1 := (mul_ky h1 h2).1
  have e2 := (mul_ky h2 h1).1
  have e3 := (mul_ky h1 ha).1
  have e4 := (mul_ky ha h2).1
  have e5 := (mul_ky h1 ha).2
  simp only [e1, e2, e3, e4, e5]
  split
  · simp
  · split
    · simp
    · simp
theorem inA_cut {L : List Lf} (hL : LOk L) {k : Nat} {a : PT} (hk : k < (endsR L).length) (ha : Ang a) (h : inA a (arcK L k) = true) :
    (∀ i, i < (endsR L).length → (ky (endsR L)[i]! ≤ ky a ↔ i ≤ k) ∧ ky (endsR L)[i]! ≠ ky a) ∨ (k + 1 = (endsR L).length ∧ ∀ i, i < (endsR L).length → ky a < ky (endsR L)[i]!) := by
  have hE := endsR_ang hL
  have hn : 0 < (endsR L).length := by omega
  have hm := Nat.mod_lt (k + 1) hn
  have h' : inA a ((endsR L)[k]!, (endsR L)[(k + 1) % (endsR L).length]!) = true := h
  have hh := (inA_ky (x := ((endsR L)[k]!, (endsR L)[(k + 1) % (endsR L).length]!)) ha (hE _ (endsR_mem hk)) (hE _ (endsR_mem hm))).1 h'
  dsimp only at hh
  clear h'
  clear h
  have hle : ∀ i j, i < (endsR L).length → j < (endsR L).length → (ky (endsR L)[i]! ≤ ky (endsR L)[j]! ↔ i ≤ j) := fun i j hi hj => endsR_le hL hi hj
  clear hE ha hL
  rcases Nat.lt_or_ge (k + 1) (endsR L).length with h1 | h1
  · have e : (k + 1) % (endsR L).length = k + 1 := Nat.mod_eq_of_lt h1
    simp only [e] at hh
    have h2 := hle (k + 1) k h1 hk
    have h0 : ky (endsR L)[k]! < ky (endsR L)[k + 1]! := by
      generalize ky (endsR L)[k]! = F at *
      generalize ky (endsR L)[k + 1]! = T at *
      omega
    simp only [h0, if_true] at hh
    left
    intro i hi
    have h3 := hle i k hi hk
    have h4 := hle (k + 1) i h1 hi
    clear hle h2 h0
    generalize ky (endsR L)[k]! = F at *
    generalize ky (endsR L)[k + 1]! = T at *
    generalize ky (endsR L)[i]! = I at *
    generalize ky a = A at *
    omega
  · have h2 : k + 1 = (endsR L).length := by omega
    have e : (k + 1) % (endsR L).length = 0 := by rw [h2]; exact Nat.mod_self _
    simp only [e] at hh
    have h3 : ∀ i, i < (endsR L).length → ky (endsR L)[0]! ≤ ky (endsR L)[i]! := fun i hi => (hle 0 i hn hi).2 (Nat.zero_le _)
    have h4 : ∀ i, i < (endsR L).length → ky (endsR L)[i]! ≤ ky (endsR L)[k]! := fun i hi => (hle i k hi hk).2 (by omega)
    have h5 : ky (endsR L)[k]! < ky a ∨ ky a < ky (endsR L)[0]! := by
      have h6 := h3 k hk
      clear hle h3 h4
      generalize ky (endsR L)[k]! = F at *
      generalize ky (endsR L)[0]! = T at *
      generalize ky a = A at *
      split at hh
      · omega
      · split at hh <;> omega
    clear hle hh
    rcases h5 with h5 | h5
    · left
      intro i hi
      have h6 := h4 i hi
      generalize ky (endsR L)[k]! = F at *
      generalize ky (endsR L)[i]! = I at *
      generalize ky a = A at *
      omega
    · right
      refine ⟨h2, fun i hi => Nat.lt_of_lt_of_le h5 (h3 i hi)⟩
theorem inA_over {L : List Lf} (hL : LOk L) {k : Nat} {a : PT} (hk : k < (endsR L).length) (ha : Ang a) (h : inA a (arcK L k) = true) :
    (∀ t, overG L a t ↔ overG L (endsR L)[k]! t) ∧ ∀ t, t < L.length → ky a ≠ ky L[t]!.1 ∧ ky a ≠ ky L[t]!.2 := by
  have hle : ∀ i j, i < (endsR L).length → j < (endsR L).length → (ky (endsR L)[i]! ≤ ky (endsR L)[j]! ↔ i ≤ j) := fun i j hi hj => endsR_le hL hi hj
  constructor
  · intro t
    unfold overG
    refine and_congr_right fun ht => ?_
    obtain ⟨⟨i, hi, e1⟩, j, hj, e2⟩ := endsR_at ht
    rw [← e1, ← e2]
    have h1 := hle i k hi hk
    have h2 := hle j k hj hk
    rcases inA_cut hL hk ha h with hc | ⟨hc, hd⟩
    · have h3 := hc i hi
      have h4 := hc j hj
      omega
    · have h3 := hd i hi
      have h4 := hd j hj
      omega
  · intro t ht
    obtain ⟨⟨i, hi, e1⟩, j, hj, e2⟩ := endsR_at ht
    rw [← e1, ← e2]
    rcases inA_cut hL hk ha h with hc | ⟨hc, hd⟩
    · have h3 := hc i hi
      have h4 := hc j hj
      omega
    · have h3 := hd i hi
      have h4 := hd j hj
      omega
theorem apart_over {L : List Lf} (hL : LOk L) {a b : PT} (ha : Ang a) (hb : Ang b) (ea : ∀ t, t < L.length → ky a ≠ ky L[t]!.1 ∧ ky a ≠ ky L[t]!.2) (eb : ∀ t, t < L.length → ky b ≠ ky L[t]!.1 ∧ ky b ≠ ky L[t]!.2) :
    (L.any fun l => partsP l a b) = false ↔ ∀ t, overG L a t ↔ overG L b t := by
  constructor
  · intro h t
    unfold overG
    refine and_congr_right fun ht => ?_
    have h1 := List.any_eq_false.1 h _ (getBang_mem ht)
    rw [partsP_ky (hL.get ht).1 ha hb] at h1
    have := ea t ht
    have := eb t ht
    have : ky L[t]!.1 < ky a ∧ ky a < ky L[t]!.2 ↔ ky L[t]!.1 < ky b ∧ ky b < ky L[t]!.2 := by
      rcases Classical.em (ky L[t]!.1 < ky a ∧ ky a < ky L[t]!.2 ↔ ky L[t]!.1 < ky b ∧ ky b < ky L[t]!.2) with h2 | h2
      · exact h2
      · exact absurd ⟨ea t ht, eb t ht, h2⟩ h1
    omega
  · intro h
    refine any_not fun t ht => ?_
    rw [Bool.eq_false_iff, ne_eq, partsP_ky (hL.get ht).1 ha hb]
    have h1 := h t
    unfold overG at h1
    have := ea t ht
    have := eb t ht
    omega
theorem insG_get {G : List (List (PT × PT))} {a : PT} {i : Int} (h : insG G a = i) (h0 : 0 ≤ i) : ∃ n : Nat, i = (n : Int) ∧ n < G.length ∧ ∃ g x, G[n]? = some g ∧ x ∈ g ∧ inA a x = true := by
  unfold insG at h
  split at h
  · rename_i hlt
    have h1 := List.findIdx_getElem (w := hlt)
    obtain ⟨x, hx, h2⟩ := List.any_eq_true.1 h1
    exact ⟨_, h.symm, hlt, _, x, List.getElem?_eq_getElem hlt, hx, h2⟩
  · omega
theorem insG_lo (G : List (List (PT × PT))) (a : PT) : -1 ≤ insG G a ∧ insG G a ≤ (G.length : Int) := by
  unfold insG
  split <;> omega
theorem apart_in {L : List Lf} (hL : LOk L) {a b : PT} (ha : Ang a) (hb : Ang b) (h1 : 0 ≤ insG (gapsL L) a) (h2 : 0 ≤ insG (gapsL L) b) :
    (L.any fun l => partsP l a b) = !decide (insG (gapsL L) a = insG (gapsL L) b) := by
  obtain ⟨i, ei, hi, g, x, hg, hx, hax⟩ := insG_get rfl h1
  obtain ⟨j, ej, hj, g', y, hg', hy, hby⟩ := insG_get rfl h2
  rw [ei, ej]
  by_cases h : L = []
  · subst h
    have e : (gapsL []).length = 1 := rfl
    rw [e] at hi hj
    rw [show i = j by omega]
    simp
  · rw [gapsL_side hL h] at hi hj hg hg'
    obtain ⟨κ, hκ⟩ : ∃ κ : Nat → List UInt8, κ = fun k => sideB L (endsR L)[k]! := ⟨_, rfl⟩
    rw [← hκ] at hi hj hg hg'
    rw [grpG_len] at hi hj
    have hκe : ∀ k, κ k = sideB L (endsR L)[k]! := fun k => by rw [hκ]
    clear hκ
    have key : ∀ (n : Nat) (g : List (PT × PT)) (x : PT × PT) (c : PT) (hn : n < (repsG κ (endsR L).length).length), (grpG κ (arcK L) (endsR L).length)[n]? = some g → x ∈ g → Ang c → inA c x = true → (∀ t, t < L.length → ky c ≠ ky L[t]!.1 ∧ ky c ≠ ky L[t]!.2) ∧ (∀ t, overG L c t ↔ overG L (endsR L)[(repsG κ (endsR L).length)[n]]! t) := by
      intro n g x c hn hg hx hc hcx
      unfold grpG at hg
      rw [List.getElem?_map, List.getElem?_eq_getElem hn] at hg
      injection hg with hg
      subst hg
      obtain ⟨k, hk, rfl⟩ := List.mem_map.1 hx
      obtain ⟨hk1, hk2⟩ := List.mem_filter.1 hk
      have hk1 := List.mem_range.1 hk1
      have hk2 := of_decide_eq_true hk2
      obtain ⟨h3, h4⟩ := inA_over hL hk1 hc hcx
      refine ⟨h4, fun t => (h3 t).trans ?_⟩
      have hr := repsG_lt _ _ (List.getElem_mem hn)
      have hE := endsR_ang hL
      exact (side_iff hL (hE _ (endsR_mem hk1)) (hE _ (endsR_mem hr))).1 (by rw [← hκe, ← hκe]; exact hk2) t
    obtain ⟨ea, oa⟩ := key i g x a hi hg hx ha hax
    obtain ⟨eb, ob⟩ := key j g' y b hj hg' hy hb hby
    have hA := apart_over hL ha hb ea eb
    have hnd := repsG_nodup (κ := κ) (endsR L).length
    have hE := endsR_ang hL
    have hri := repsG_lt _ _ (List.getElem_mem hi)
    have hrj := repsG_lt _ _ (List.getElem_mem hj)
    have hs := side_iff hL (hE _ (endsR_mem hri)) (hE _ (endsR_mem hrj))
    have hij : (∀ t, overG L a t ↔ overG L b t) ↔ i = j := by
      constructor
      · intro h3
        have h4 : κ (repsG κ (endsR L).length)[i] = κ (repsG κ (endsR L).length)[j] := by
          rw [hκe, hκe]
          exact hs.2 fun t => (oa t).symm.trans ((h3 t).trans (ob t))
        have h5 : ((repsG κ (endsR L).length).map κ)[i]'(by simpa using hi) = ((repsG κ (endsR L).length).map κ)[j]'(by simpa using hj) := by
          rw [List.getElem_map, List.getElem_map]; exact h4
        exact nodup_inj hnd h5
      · rintro rfl t
        exact (oa t).trans (ob t).symm
    rw [hij] at hA
    rcases Classical.em (i = j) with h3 | h3
    · rw [hA.2 h3, h3]; simp
    · rcases hb' : (L.any fun l => partsP l a b) with _ | _
      · exact absurd (hA.1 hb') h3
      · have : ¬ ((i : Int) = (j : Int)) := by omega
        simp [this]
end Go.Proofs.YtoaggmegmgdgbaaGreat
