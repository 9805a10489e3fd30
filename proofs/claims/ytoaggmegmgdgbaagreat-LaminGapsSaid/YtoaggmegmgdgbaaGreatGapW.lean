import Derived.Test.YtoaggmegmgdgbaaGreatRatF
import Derived.Test.YtoaggmegmgdgbaaGreatLGapI
namespace Go.Proofs.YtoaggmegmgdgbaaGreat
open Go.RowKit Go.Sort
theorem Un.dvd {M : Nat} {a : Int} {b : Nat} {t : Int} (hl : LowF a b) (h : Un M a b t) : b ∣ M := by
  unfold Un at h
  have h1 : (b : Int) ∣ a * (M : Int) := ⟨t, by rw [h, Int.mul_comm]⟩
  have h2 := Int.natAbs_dvd_natAbs.2 h1
  rw [Int.natAbs_natCast, Int.natAbs_mul, Int.natAbs_natCast] at h2
  have hc : Nat.Coprime b a.natAbs := by
    have := hl.2
    rw [Nat.gcd_comm] at this
    exact this
  exact hc.dvd_of_dvd_mul_left h2
structure Fr (M : Nat) (a : Int) (b : Nat) (t : Int) : Prop where
  low : LowF a b
  un : Un M a b t
theorem Fr.fit {M k : Nat} {a : Int} {b : Nat} {t : Int} (h : Fr M a b t) (hM : 0 < M) (hk : Fit k M) (ht : -(M : Int) ≤ t ∧ t ≤ (M : Int)) : Fit k a.natAbs ∧ Fit k b := by
  have h1 := Nat.le_of_dvd hM (h.un.dvd h.low)
  exact ⟨hk.le (Nat.le_trans (h.un.le hM ht) h1), hk.le h1⟩
theorem Fr.add {M : Nat} {a c : Int} {b d : Nat} {s t : Int} (h : Fr M a b s) (h' : Fr M c d t) : Fr M (lowN (a * d + c * b) (b * d)) (lowD (a * d + c * b) (b * d)) (s + t) :=
  have h0 := Nat.mul_pos h.low.1 h'.low.1
  ⟨low_low h0, (h.un.add h'.un).low h0⟩
theorem Fr.sub {M : Nat} {a c : Int} {b d : Nat} {s t : Int} (h : Fr M a b s) (h' : Fr M c d t) : Fr M (lowN (a * d + -c * b) (b * d)) (lowD (a * d + -c * b) (b * d)) (s - t) :=
  have h0 := Nat.mul_pos h.low.1 h'.low.1
  ⟨low_low h0, (h.un.add h'.un.neg).low h0⟩
theorem fr_ang {M : Nat} {p : PT} (hp : Ang p) (hd : p.2 ∣ M) : Fr M (p.1 : Int) p.2 (un M p : Int) :=
  ⟨⟨by have := hp.2.1; omega, by rw [Int.natAbs_natCast]; exact hp.1⟩, un_un hd⟩
def FrV (M : Nat) (s : Bool) (a b : ByteArray) (t : Int) : Prop := ∃ (S : Int) (D : Nat), s = decide (S < 0) ∧ a = natS S.natAbs ∧ b = natS D ∧ Fr M S D t
theorem FrV.ang {M : Nat} {p : PT} (hp : Ang p) (hd : p.2 ∣ M) : FrV M false (natS p.1) (natS p.2) (un M p : Int) := ⟨(p.1 : Int), p.2, (decide_eq_false (by omega)).symm, by rw [Int.natAbs_natCast], rfl, fr_ang hp hd⟩
theorem FrV.one (M : Nat) : FrV M false (natS 1) (natS 1) (M : Int) := ⟨1, 1, rfl, rfl, rfl, ⟨⟨Nat.one_pos, rfl⟩, Un.one M⟩⟩
theorem FrV.zero (M : Nat) : FrV M false (natS 0) (natS 1) 0 := ⟨0, 1, rfl, rfl, rfl, ⟨⟨Nat.one_pos, rfl⟩, Un.zero M⟩⟩
theorem FrV.whole {M : Nat} {s : Bool} {a b : ByteArray} (hM : 0 < M) (h : FrV M s a b (M : Int)) : s = false ∧ a = natS 1 ∧ b = natS 1 := by
  obtain ⟨S, D, rfl, rfl, rfl, hf⟩ := h
  obtain ⟨rfl, rfl⟩ := hf.un.whole hM hf.low
  exact ⟨rfl, rfl, rfl⟩
theorem ratAddV {M k : Nat} {s s' : Bool} {a b a' b' : ByteArray} {t t' : Int} (w : World) (hM : 0 < M) (hk : k ≤ 1000) (hF : Fit k M) (h : FrV M s a b t) (h' : FrV M s' a' b' t') (ht : -(M : Int) ≤ t ∧ t ≤ (M : Int)) (ht' : -(M : Int) ≤ t' ∧ t' ≤ (M : Int)) :
    Calls Tryz.prog 34 #[.agg #[.bool s, .string a, .string b], .agg #[.bool s', .string a', .string b']] w fun e w' => ∃ s2 a2 b2, e = .returned (.tuple #[.agg #[.bool s2, .string a2, .string b2], .int .i64 0]) ∧ FrV M s2 a2 b2 (t + t') ∧ Below w.heap.size w w' := by
  obtain ⟨S, D, rfl, rfl, rfl, hf⟩ := h
  obtain ⟨S', D', rfl, rfl, rfl, hf'⟩ := h'
  have l1 := hf.fit hM hF ht
  have l2 := hf'.fit hM hF ht'
  refine (ratioAdd_any k S S' D D' w hf.low hf'.low hk l1.1 l1.2 l2.1 l2.2).mono ?_
  rintro e w1 ⟨rfl, hb⟩
  exact ⟨_, _, _, rfl, ⟨_, _, rfl, rfl, rfl, hf.add hf'⟩, hb⟩
theorem ratSubV {M k : Nat} {s s' : Bool} {a b a' b' : ByteArray} {t t' : Int} (w : World) (hM : 0 < M) (hk : k ≤ 1000) (hF : Fit k M) (h : FrV M s a b t) (h' : FrV M s' a' b' t') (ht : -(M : Int) ≤ t ∧ t ≤ (M : Int)) (ht' : -(M : Int) ≤ t' ∧ t' ≤ (M : Int)) :
    Calls Tryz.prog 32 #[.agg #[.bool s, .string a, .string b], .agg #[.bool s', .string a', .string b']] w fun e w' => ∃ s2 a2 b2, e = .returned (.tuple #[.agg #[.bool s2, .string a2, .string b2], .int .i64 0]) ∧ FrV M s2 a2 b2 (t - t') ∧ Below w.heap.size w w' := by
  obtain ⟨S, D, rfl, rfl, rfl, hf⟩ := h
  obtain ⟨S', D', rfl, rfl, rfl, hf'⟩ := h'
  have l1 := hf.fit hM hF ht
  have l2 := hf'.fit hM hF ht'
  refine (ratioSub_any k S S' D D' w hf.low hf'.low hk l1.1 l1.2 l2.1 l2.2).mono ?_
  rintro e w1 ⟨rfl, hb⟩
  exact ⟨_, _, _, rfl, ⟨_, _, rfl, rfl, rfl, hf.sub hf'⟩, hb⟩
theorem ratCmpV {M : Nat} {p q : PT} (w : World) (hp : Ang p) (hq : Ang q) (hM : 0 < M) (hd : p.2 ∣ M) (hd' : q.2 ∣ M) :
    Calls Tryz.prog 33 #[.agg #[.bool false, .string (natS p.1), .string (natS p.2)], .agg #[.bool false, .string (natS q.1), .string (natS q.2)]] w (RetVal (.tuple #[.int .i64 (cmpI (p.1 * q.2) (q.1 * p.2)), .int .i64 0]) w) := by
  have f : ∀ {p : PT}, Ang p → Fit 1 (p.1 : Int).natAbs ∧ Fit 1 p.2 := fun {p} h => by
    have h1 := h.2.1
    have h2 := h.2.2
    unfold Fit
    rw [Int.natAbs_natCast]
    omega
  have e : ∀ (n : Nat) (b : Nat), frV (n : Int) b = .agg #[.bool false, .string (natS n), .string (natS b)] := fun n b => by
    unfold frV
    rw [decide_eq_false (show ¬ (n : Int) < 0 by omega), Int.natAbs_natCast]
  have h := compareR_any 1 p.1 p.2 q.1 q.2 w (fr_ang hp hd).low (fr_ang hq hd').low (by omega) (f hp).1 (f hp).2 (f hq).1 (f hq).2
  rw [e, e] at h
  refine h.mono ?_
  rintro en w1 ⟨rfl, hb⟩
  exact ⟨rfl, hb⟩
theorem cmp_un {M : Nat} {p q : PT} (hp : Ang p) (hq : Ang q) (hM : 0 < M) (hd : p.2 ∣ M) (hd' : q.2 ∣ M) : cmpI (p.1 * q.2) (q.1 * p.2) ≤ 0 ↔ un M p ≤ un M q := by
  have h1 := un_mono hq hp hM hd' hd
  unfold cmpI
  split
  · omega
  · split <;> omega
theorem mulD_fit : ∀ {E : List PT}, (∀ e, e ∈ E → Ang e) → Fit (E.length + 1) (mulD E)
  | [], _ => by unfold Fit mulD; simp
  | x :: E, h => by
    have hx : mulD (x :: E) = x.2 * mulD E := rfl
    rw [hx, List.length_cons, show E.length + 1 + 1 = 1 + (E.length + 1) by omega]
    refine Fit.mul ?_ (mulD_fit fun e he => h e (List.mem_cons_of_mem _ he))
    have := (h x (List.mem_cons_self ..)).2.2
    unfold Fit
    omega
theorem gaps_sumF {L : List Lf} (hL : LOk L) (hn : L.length ≤ 40) : ∃ M, 0 < M ∧ Fit 100 M ∧ (∀ g, g ∈ gapsL L → ∀ x, x ∈ g → ArcOk M x) ∧ sumU M (gapsL L) = M := by
  by_cases h : L = []
  · obtain ⟨M, h1, h2, h3⟩ := gaps_sum hL
    subst h
    refine ⟨1, Nat.one_pos, by unfold Fit; decide, fun g hg x hx => ?_, by decide⟩
    have h4 := h2 g hg x hx
    have e : gapsL [] = [[((0, 1), (0, 1))]] := rfl
    rw [e, List.mem_singleton] at hg
    subst hg
    rw [List.mem_singleton] at hx
    subst hx
    exact ⟨h4.a, h4.b, Nat.dvd_refl _, Nat.dvd_refl _⟩
  · have hp := endsR_pos h
    have hE := endsR_ang hL
    have hM := mulD_pos hE
    have hmod : ∀ k, (k + 1) % (endsR L).length < (endsR L).length := fun k => Nat.mod_lt _ hp
    have hlen : (endsR L).length ≤ 80 := by
      have h1 := riseL_len (endsL L)
      rw [endsL_len] at h1
      unfold endsR
      omega
    refine ⟨mulD (endsR L), hM, (mulD_fit hE).mono (by omega), fun g hg x hx => ?_, ?_⟩
    · rw [gapsL_form h] at hg
      obtain ⟨j, hj, rfl⟩ := grpG_mem hg hx
      exact ⟨hE _ (endsR_mem hj), hE _ (endsR_mem (hmod j)), mulD_dvd (endsR_mem hj), mulD_dvd (endsR_mem (hmod j))⟩
    · rw [gapsL_form h, sumU_grp]
      refine tele (mulD (endsR L)) (endsR L).length (fun k => un (mulD (endsR L)) (endsR L)[k]!) hp (fun i j hij hj => ?_) (fun i hi => ?_)
      · have hi : i < (endsR L).length := by omega
        rw [un_mono (hE _ (endsR_mem hi)) (hE _ (endsR_mem hj)) hM (mulD_dvd (endsR_mem hi)) (mulD_dvd (endsR_mem hj)), ← cmpP_lt, ky_lt (hE _ (endsR_mem hi)) (hE _ (endsR_mem hj)), endsR_lt hL hi hj]
        exact hij
      · exact un_lt (hE _ (endsR_mem hi)) hM (mulD_dvd (endsR_mem hi))
def preU (M : Nat) (G : List (List (PT × PT))) (i k : Nat) : Nat := sumU M (G.take i) + ((G[i]!.take k).map (arcU M)).sum
theorem preU_zero (M : Nat) (G : List (List (PT × PT))) : preU M G 0 0 = 0 := by simp [preU, sumU]
theorem preU_step {M : Nat} {G : List (List (PT × PT))} {i k : Nat} (hk : k < G[i]!.length) : preU M G i (k + 1) = preU M G i k + arcU M (G[i]![k]!) := by
  unfold preU
  rw [List.take_succ_eq_append_getElem hk, List.map_append, List.sum_append, getElem!_pos G[i]! k hk]
  simp; omega
theorem preU_next {M : Nat} {G : List (List (PT × PT))} {i : Nat} (hi : i < G.length) : preU M G i G[i]!.length = preU M G (i + 1) 0 := by
  unfold preU sumU
  rw [List.take_succ_eq_append_getElem hi, List.map_append, List.sum_append, getElem!_pos G i hi]
  simp
theorem sum_take_le : ∀ (l : List Nat) (k : Nat), (l.take k).sum ≤ l.sum
  | [], k => by simp
  | a :: l, 0 => by simp
  | a :: l, k + 1 => by
    have := sum_take_le l k
    simp only [List.take_succ_cons, List.sum_cons]
    omega
theorem preU_le {M : Nat} {G : List (List (PT × PT))} {i k : Nat} (hi : i < G.length) : preU M G i k ≤ sumU M G := by
  have h1 : preU M G i k ≤ preU M G (i + 1) 0 := by
    rw [← preU_next hi]
    unfold preU
    rw [List.take_length, List.map_take]
    have := sum_take_le (G[i]!.map (arcU M)) k
    omega
  refine Nat.le_trans h1 ?_
  unfold preU sumU
  rw [List.map_take]
  have := sum_take_le (G.map fun g => (g.map (arcU M)).sum) (i + 1)
  simpa using this
theorem preU_end {M : Nat} {G : List (List (PT × PT))} : preU M G G.length 0 = sumU M G := by
  unfold preU
  rw [List.take_length]
  simp
theorem arcU_eq {M : Nat} {x : PT × PT} (hx : ArcOk M x) (hM : 0 < M) : ((arcU M x : Nat) : Int) = (if un M x.2 ≤ un M x.1 then (un M x.2 : Int) - (un M x.1 : Int) + (M : Int) else (un M x.2 : Int) - (un M x.1 : Int)) := by
  have h1 := un_lt hx.a hM hx.da
  have h2 := un_lt hx.b hM hx.db
  unfold arcU
  split <;> omega
end Go.Proofs.YtoaggmegmgdgbaaGreat
