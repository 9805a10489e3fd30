import Derived.Test.YtoaggmegmgdgbaaGreatLamK
import Derived.Test.YtoaggmegmgdgbaaGreatOnceJ
import Derived.Test.YtoaggmegmgdgbaaGreatGapA
namespace Go.Proofs.YtoaggmegmgdgbaaGreat
def ky (p : Nat × Nat) : Nat := p.1 * 18446744073709551616 / p.2
theorem ky_mono {p q : Nat × Nat} (hp : Ang p) (hq : Ang q) (h : p.1 * q.2 < q.1 * p.2) : ky p < ky q := by
  obtain ⟨-, hp1, hp2⟩ := hp
  obtain ⟨-, hq1, hq2⟩ := hq
  have p0 : 0 < p.2 := by omega
  have q0 : 0 < q.2 := by omega
  unfold ky
  rw [Nat.div_lt_iff_lt_mul p0]
  have e1 : q.1 * 18446744073709551616 < (q.1 * 18446744073709551616 / q.2 + 1) * q.2 := by
    have := Nat.lt_succ_iff.2 (Nat.le_refl (q.1 * 18446744073709551616 / q.2))
    rwa [Nat.div_lt_iff_lt_mul q0] at this
  generalize q.1 * 18446744073709551616 / q.2 = k at e1 ⊢
  -- k * p.2 > p.1 * M, times q.2
  have e2 : p.2 * q.2 ≤ 2147483647 * 2147483647 := Nat.mul_le_mul hp2 hq2
  refine Nat.lt_of_mul_lt_mul_left (a := q.2) ?_
  have e3 : (q.1 * p.2) * 18446744073709551616 < (k * q.2 + q.2) * p.2 := by
    calc (q.1 * p.2) * 18446744073709551616 = (q.1 * 18446744073709551616) * p.2 := by ac_rfl
      _ < ((k + 1) * q.2) * p.2 := Nat.mul_lt_mul_of_pos_right e1 p0
      _ = _ := by rw [Nat.succ_mul]
  rw [Nat.add_mul] at e3
  have e4 : q.2 * (p.1 * 18446744073709551616) = (p.1 * q.2) * 18446744073709551616 := by ac_rfl
  have e5 : q.2 * (k * p.2) = k * q.2 * p.2 := by ac_rfl
  have e6 : q.2 * p.2 = p.2 * q.2 := Nat.mul_comm _ _
  rw [e4, e5]
  rw [e6] at e3
  have e7 : p.2 * q.2 < 18446744073709551616 := Nat.lt_of_le_of_lt e2 (by decide)
  clear e1 e2 e4 e5 e6
  generalize 18446744073709551616 = M at *
  generalize k * q.2 * p.2 = A at *
  generalize p.2 * q.2 = D at *
  generalize p.1 * q.2 = X at *
  generalize q.1 * p.2 = Y at *
  have e8 : (X + 1) * M ≤ Y * M := Nat.mul_le_mul_right M h
  rw [Nat.succ_mul] at e8
  omega
theorem ky_lt {p q : Nat × Nat} (hp : Ang p) (hq : Ang q) : cmpP p q < 0 ↔ ky p < ky q := by
  rw [cmpP_lt]
  refine ⟨ky_mono hp hq, fun h => ?_⟩
  rcases Nat.lt_trichotomy (p.1 * q.2) (q.1 * p.2) with h1 | h1 | h1
  · exact h1
  · have e : cmpP p q = 0 := by unfold cmpP cmpN; rw [h1]; simp
    rw [(cmpP_eq hp hq).1 e] at h
    omega
  · have := ky_mono hq hp h1
    omega
theorem ky_eq {p q : Nat × Nat} (hp : Ang p) (hq : Ang q) : p = q ↔ ky p = ky q := by
  refine ⟨fun h => by rw [h], fun h => ?_⟩
  have h1 := ky_lt hp hq
  have h2 := ky_lt hq hp
  refine (cmpP_eq hp hq).1 ?_
  have h3 := cmpP_anti (p := p) (q := q)
  have := cmpP_bd p q
  omega
def Lfp (l : Lf) : Prop := AngL l ∧ cmpP l.1 l.2 < 0
theorem Lfp.ky {l : Lf} (h : Lfp l) : ky l.1 < ky l.2 := (ky_lt h.1.1 h.1.2).1 h.2
theorem partsP_ky {l : Lf} {a b : Nat × Nat} (hl : AngL l) (ha : Ang a) (hb : Ang b) : partsP l a b = true ↔ (ky a ≠ ky l.1 ∧ ky a ≠ ky l.2) ∧ (ky b ≠ ky l.1 ∧ ky b ≠ ky l.2) ∧ ¬ ((ky l.1 < ky a ∧ ky a < ky l.2) ↔ (ky l.1 < ky b ∧ ky b < ky l.2)) := by
  unfold partsP endP withinP
  simp only [Bool.and_eq_true, Bool.not_eq_true', Bool.or_eq_false_iff, decide_eq_false_iff_not, bne_iff_ne, ne_eq, ky_eq ha hl.1, ky_eq ha hl.2, ky_eq hb hl.1, ky_eq hb hl.2, ky_lt hl.1 ha, ky_lt ha hl.2, ky_lt hl.1 hb, ky_lt hb hl.2]
  by_cases h1 : ky l.1 < ky a <;> by_cases h2 : ky a < ky l.2 <;> by_cases h3 : ky l.1 < ky b <;> by_cases h4 : ky b < ky l.2 <;> simp [h1, h2, h3, h4]
def crossP (l m : Lf) : Bool := partsP l m.1 m.2
theorem crossP_ky {l m : Lf} (hl : Lfp l) (hm : Lfp m) : crossP l m = true ↔ (ky l.1 < ky m.1 ∧ ky m.1 < ky l.2 ∧ ky l.2 < ky m.2) ∨ (ky m.1 < ky l.1 ∧ ky l.1 < ky m.2 ∧ ky m.2 < ky l.2) := by
  unfold crossP
  rw [partsP_ky hl.1 hm.1.1 hm.1.2]
  have h1 := hl.ky
  have h2 := hm.ky
  omega
theorem crossP_symm {l m : Lf} (hl : Lfp l) (hm : Lfp m) : crossP l m = crossP m l := by
  rw [Bool.eq_iff_iff, crossP_ky hl hm, crossP_ky hm hl]
  omega
theorem crossP_self {l : Lf} (hl : Lfp l) : crossP l l = false := by
  rw [Bool.eq_false_iff, ne_eq, crossP_ky hl hl]
  omega
structure LOk (L : List Lf) : Prop where
  lf : ∀ m, m ∈ L → Lfp m
  up : L.Pairwise fun l m => ordL l m < 0
  nc : ∀ l m, l ∈ L → m ∈ L → crossP l m = false
theorem LOk.nil : LOk [] := ⟨fun _ h => absurd h (by simp), List.Pairwise.nil, fun _ _ h => absurd h (by simp)⟩
theorem LOk.ang {L : List Lf} (h : LOk L) : ∀ m, m ∈ L → AngL m := fun m hm => (h.lf m hm).1
def plcL (L : List Lf) (l : Lf) : Nat := (L.takeWhile fun m => decide (ordL m l < 0)).length
theorem tw_split {α : Type} (p : α → Bool) (l : List α) : l = l.take (l.takeWhile p).length ++ l.drop (l.takeWhile p).length ∧ l.take (l.takeWhile p).length = l.takeWhile p ∧ l.drop (l.takeWhile p).length = l.dropWhile p := by
  have h := List.takeWhile_append_dropWhile (p := p) (l := l)
  refine ⟨(List.take_append_drop _ _).symm, ?_, ?_⟩
  · conv => lhs; rw [← h]
    rw [List.take_left' (by rw [h])]
  · conv => lhs; rw [← h]
    rw [List.drop_left' (by rw [h])]
theorem getBang_mem {L : List Lf} {t : Nat} (ht : t < L.length) : L[t]! ∈ L := by rw [getElem!_pos L t ht]; exact List.getElem_mem ht
theorem Plc.of_up {L : List Lf} {l : Lf} (hL : ∀ m, m ∈ L → AngL m) (hl : AngL l) (h : L.Pairwise fun l m => ordL l m < 0) : Plc L l (plcL L l) := by
  obtain ⟨h1, h2, h3⟩ := tw_split (fun m => decide (ordL m l < 0)) L
  have hle : plcL L l ≤ L.length := by
    unfold plcL
    have := congrArg List.length (List.takeWhile_append_dropWhile (p := fun m => decide (ordL m l < 0)) (l := L))
    rw [List.length_append] at this
    omega
  refine ⟨hle, fun t ht => ?_, fun t h4 h5 => ?_⟩
  · have hm : L[t]! ∈ L.takeWhile fun m => decide (ordL m l < 0) := by
      rw [← h2, getElem!_pos L t (by omega)]
      refine List.mem_iff_getElem.2 ⟨t, by rw [List.length_take]; exact Nat.lt_min.2 ⟨ht, by omega⟩, by rw [List.getElem_take]⟩
    have := List.all_eq_true.1 (List.all_takeWhile (p := fun m => decide (ordL m l < 0)) (l := L)) _ hm
    simpa using this
  · rcases Int.lt_or_le (ordL L[t]! l) 0 with h6 | h6
    · exfalso
      have hk : plcL L l < L.length := by omega
      have hs := takeWhile_stop (fun m => decide (ordL m l < 0)) L hk
      simp only [decide_eq_false_iff_not] at hs
      have hk2 : ordL (L[plcL L l]) l ≥ 0 := by
        have : ¬ ordL (L[plcL L l]) l < 0 := hs
        omega
      rw [getElem!_pos L t h5] at h6
      rcases Nat.eq_or_lt_of_le h4 with e | e
      · subst e; omega
      · have h7 := List.pairwise_iff_getElem.1 h (plcL L l) t hk h5 e
        have := ordL_trans (hL _ (List.getElem_mem hk)) (hL _ (List.getElem_mem h5)) hl h7 h6
        omega
    · exact h6
theorem Plc.has {L : List Lf} {l : Lf} {K : Nat} (h : Plc L l K) (hL : ∀ m, m ∈ L → AngL m) (hup : L.Pairwise fun l m => ordL l m < 0) : (K < L.length ∧ L[K]! = l) ↔ l ∈ L := by
  constructor
  · rintro ⟨h1, h2⟩
    rw [← h2]
    exact getBang_mem h1
  · intro hm
    obtain ⟨i, hi, e⟩ := List.mem_iff_getElem.1 hm
    have e2 : L[i]! = l := by rw [getElem!_pos L i hi]; exact e
    rcases Nat.lt_trichotomy i K with h1 | h1 | h1
    · have := h.lo i h1
      rw [e2, ordL_refl] at this
      omega
    · subst h1
      exact ⟨hi, e2⟩
    · exfalso
      have hk : K < L.length := by omega
      have h2 := h.hi K (Nat.le_refl _) hk
      have h3 := List.pairwise_iff_getElem.1 hup K i hk hi h1
      rw [getElem!_pos L K hk] at h2
      rw [e] at h3
      omega
theorem mem_putL {L : List Lf} {l m : Lf} {K : Nat} : m ∈ putL L l K ↔ m = l ∨ m ∈ L := by
  unfold putL
  have h : m ∈ L ↔ m ∈ L.take K ∨ m ∈ L.drop K := by rw [← List.mem_append, List.take_append_drop]
  rw [List.mem_append, List.mem_append, List.mem_singleton, h]
  constructor
  · rintro ((h | h) | h)
    · exact .inr (.inl h)
    · exact .inl h
    · exact .inr (.inr h)
  · rintro (h | h | h)
    · exact .inl (.inr h)
    · exact .inl (.inl h)
    · exact .inr h
theorem putL_length {L : List Lf} {l : Lf} {K : Nat} (h : K ≤ L.length) : (putL L l K).length = L.length + 1 := by
  unfold putL
  simp
  omega
theorem putL_up {L : List Lf} {l : Lf} (hL : ∀ m, m ∈ L → AngL m) (hl : AngL l) (hup : L.Pairwise fun l m => ordL l m < 0) (hn : l ∉ L) : (putL L l (plcL L l)).Pairwise fun l m => ordL l m < 0 := by
  have hP := Plc.of_up hL hl hup
  generalize plcL L l = K at hP
  have h2 : (L.take K ++ L.drop K).Pairwise fun l m => ordL l m < 0 := by rw [List.take_append_drop]; exact hup
  obtain ⟨a1, a2, a3⟩ := List.pairwise_append.1 h2
  have hlo : ∀ m, m ∈ L.take K → ordL m l < 0 := fun m hm => by
    obtain ⟨i, hi, e⟩ := List.mem_iff_getElem.1 hm
    rw [List.length_take] at hi
    rw [List.getElem_take] at e
    have := hP.lo i (by omega)
    rw [getElem!_pos L i (by omega), e] at this
    exact this
  have hhi : ∀ m, m ∈ L.drop K → ordL l m < 0 := fun m hm => by
    have hmL := List.mem_of_mem_drop hm
    obtain ⟨i, hi, e⟩ := List.mem_iff_getElem.1 hm
    rw [List.length_drop] at hi
    rw [List.getElem_drop] at e
    have := hP.hi (K + i) (by omega) (by omega)
    rw [getElem!_pos L (K + i) (by omega), e] at this
    rcases ordL_tri hl (hL m hmL) with h | h | h
    · exact h
    · exact absurd (h ▸ hmL) hn
    · omega
  unfold putL
  rw [List.append_assoc]
  refine List.pairwise_append.2 ⟨a1, List.pairwise_cons.2 ⟨hhi, a2⟩, fun x hx y hy => ?_⟩
  rcases List.mem_cons.1 hy with rfl | hy
  · exact hlo x hx
  · exact a3 x hx y hy
def addL (L : List Lf) (l : Lf) : List Lf × Int :=
  if l ∈ L then (L, 0) else if L.any (crossP l) then (L, 231) else if 4096 ≤ L.length then (L, 4) else (putL L l (plcL L l), 0)
theorem addL_ok {L : List Lf} {l : Lf} (h : LOk L) (hl : Lfp l) : LOk (addL L l).1 := by
  unfold addL
  split
  · exact h
  split
  · exact h
  split
  · exact h
  rename_i h1 h2 h3
  have hx : ∀ m, m ∈ L → crossP l m = false := fun m hm => by
    rw [Bool.eq_false_iff]
    exact fun e => h2 (List.any_eq_true.2 ⟨m, hm, e⟩)
  refine ⟨fun m hm => ?_, putL_up h.ang hl.1 h.up h1, fun a b ha hb => ?_⟩
  · rcases mem_putL.1 hm with rfl | hm
    · exact hl
    · exact h.lf m hm
  · rcases mem_putL.1 ha with ha1 | ha1 <;> rcases mem_putL.1 hb with hb1 | hb1
    · rw [ha1, hb1]; exact crossP_self hl
    · rw [ha1]; exact hx b hb1
    · rw [hb1, crossP_symm (h.lf a ha1) hl]; exact hx a ha1
    · exact h.nc a b ha1 hb1
theorem plcL_le (L : List Lf) (l : Lf) : plcL L l ≤ L.length := by
  unfold plcL
  have := congrArg List.length (List.takeWhile_append_dropWhile (p := fun m => decide (ordL m l < 0)) (l := L))
  rw [List.length_append] at this
  omega
theorem addL_len {L : List Lf} {l : Lf} (h : L.length ≤ 4096) : (addL L l).1.length ≤ 4096 := by
  unfold addL
  split
  · exact h
  split
  · exact h
  split
  · exact h
  · rw [putL_length (plcL_le L l)]
    omega
theorem LOk.ext {L M : List Lf} (hL : LOk L) (hM : LOk M) (h : ∀ l, l ∈ L ↔ l ∈ M) : L = M := by
  -- by members that are angles
  have key : ∀ {L M : List Lf}, (∀ m, m ∈ L → AngL m) → (∀ m, m ∈ M → AngL m) → L.Pairwise (fun l m => ordL l m < 0) → M.Pairwise (fun l m => ordL l m < 0) → (∀ l, l ∈ L ↔ l ∈ M) → L = M := by
    intro L
    induction L with
    | nil =>
      intro M _ _ _ _ h
      cases M with
      | nil => rfl
      | cons y m => exact absurd ((h y).2 (List.mem_cons_self ..)) (by simp)
    | cons x l ih =>
      intro M aL aM hl hm h
      cases M with
      | nil => exact absurd ((h x).1 (List.mem_cons_self ..)) (by simp)
      | cons y m =>
        obtain ⟨hl1, hl2⟩ := List.pairwise_cons.1 hl
        obtain ⟨hm1, hm2⟩ := List.pairwise_cons.1 hm
        have ax := aL x (List.mem_cons_self ..)
        have ay := aM y (List.mem_cons_self ..)
        have e : x = y := by
          rcases List.mem_cons.1 ((h x).1 (List.mem_cons_self ..)) with e | e
          · exact e
          rcases List.mem_cons.1 ((h y).2 (List.mem_cons_self ..)) with e2 | e2
          · exact e2.symm
          have := ordL_trans ay ax ay (hm1 _ e) (hl1 _ e2)
          rw [ordL_refl] at this
          omega
        subst e
        congr 1
        refine ih (fun m hm => aL m (List.mem_cons_of_mem _ hm)) (fun m hm => aM m (List.mem_cons_of_mem _ hm)) hl2 hm2 fun z => ⟨fun hz => ?_, fun hz => ?_⟩
        · rcases List.mem_cons.1 ((h z).1 (List.mem_cons_of_mem _ hz)) with e | e
          · subst e
            have := hl1 _ hz
            rw [ordL_refl] at this
            omega
          · exact e
        · rcases List.mem_cons.1 ((h z).2 (List.mem_cons_of_mem _ hz)) with e | e
          · subst e
            have := hm1 _ hz
            rw [ordL_refl] at this
            omega
          · exact e
  exact key hL.ang hM.ang hL.up hM.up h
def putS (L : List Lf) (l : Lf) : List Lf := if l ∈ L then L else putL L l (plcL L l)
def Up (L : List Lf) : Prop := (∀ m, m ∈ L → AngL m) ∧ L.Pairwise fun l m => ordL l m < 0
theorem putS_up {L : List Lf} {l : Lf} (h : Up L) (hl : AngL l) : Up (putS L l) := by
  unfold putS
  split
  · exact h
  · rename_i hn
    refine ⟨fun m hm => ?_, putL_up h.1 hl h.2 hn⟩
    rcases mem_putL.1 hm with e | e
    · rw [e]; exact hl
    · exact h.1 m e
theorem mem_putS {L : List Lf} {l m : Lf} : m ∈ putS L l ↔ m = l ∨ m ∈ L := by
  unfold putS
  split
  · rename_i h
    exact ⟨.inr, fun h2 => h2.elim (fun e => e ▸ h) id⟩
  · exact mem_putL
theorem foldl_putS : ∀ (l : List Lf) {L : List Lf}, Up L → (∀ m, m ∈ l → AngL m) → Up (l.foldl putS L) ∧ ∀ m, m ∈ l.foldl putS L ↔ m ∈ L ∨ m ∈ l
  | [], L, h, _ => ⟨h, fun m => by simp⟩
  | a :: r, L, h, hl => by
    obtain ⟨i1, i2⟩ := foldl_putS r (putS_up h (hl a (List.mem_cons_self ..))) fun m hm => hl m (List.mem_cons_of_mem _ hm)
    refine ⟨i1, fun m => ?_⟩
    rw [List.foldl_cons, i2, mem_putS, List.mem_cons]
    constructor
    · rintro ((h | h) | h)
      · exact .inr (.inl h)
      · exact .inl h
      · exact .inr (.inr h)
    · rintro (h | h | h)
      · exact .inl (.inr h)
      · exact .inl (.inl h)
      · exact .inr h
def hullRaw (E : List PT) : List Lf := ((List.range (E.length - 1)).map fun k => mkL E[k]! E[k + 1]!) ++ (if 2 < E.length then [mkL E[0]! E[E.length - 1]!] else [])
def hullL (E : List PT) : List Lf := (hullRaw E).foldl putS []
theorem up_nil : Up [] := ⟨fun _ h => absurd h (by simp), List.Pairwise.nil⟩
theorem hullRaw_ang {E : List PT} (h : ∀ p, p ∈ E → Ang p) : ∀ m, m ∈ hullRaw E → AngL m := by
  have hg : ∀ k, k < E.length → Ang E[k]! := fun k hk => by rw [getElem!_pos E k hk]; exact h _ (List.getElem_mem hk)
  have hm : ∀ {p q : PT}, Ang p → Ang q → AngL (mkL p q) := fun hp hq => by
    unfold mkL
    split
    · exact ⟨hq, hp⟩
    · exact ⟨hp, hq⟩
  intro m hmm
  unfold hullRaw at hmm
  rcases List.mem_append.1 hmm with e | e
  · obtain ⟨k, hk, rfl⟩ := List.mem_map.1 e
    rw [List.mem_range] at hk
    exact hm (hg k (by omega)) (hg (k + 1) (by omega))
  · split at e
    · rw [List.mem_singleton.1 e]
      exact hm (hg 0 (by omega)) (hg _ (by omega))
    · cases e
theorem rise_ky {E : List PT} (h : ∀ p, p ∈ E → Ang p) (hr : Rises below_ E) {i j : Nat} (hij : i < j) (hj : j < E.length) : ky E[i]! < ky E[j]! := by
  rw [getElem!_pos E i (by omega), getElem!_pos E j hj]
  exact (ky_lt (h _ (List.getElem_mem _)) (h _ (List.getElem_mem _))).1 (List.pairwise_iff_getElem.1 hr i j (by omega) hj hij)
theorem mkL_ky {p q : PT} (hp : Ang p) (hq : Ang q) (h : ky p < ky q) : mkL p q = (p, q) := by
  unfold mkL
  rw [if_neg]
  rw [ky_lt hq hp]
  omega
theorem hullRaw_nodup {E : List PT} (h : ∀ p, p ∈ E → Ang p) (hr : Rises below_ E) : (hullRaw E).Nodup := by
  have hg : ∀ k, k < E.length → Ang E[k]! := fun k hk => by rw [getElem!_pos E k hk]; exact h _ (List.getElem_mem hk)
  have e1 : ∀ k, k + 1 < E.length → mkL E[k]! E[k + 1]! = (E[k]!, E[k + 1]!) := fun k hk => mkL_ky (hg k (by omega)) (hg _ hk) (rise_ky h hr (Nat.lt_succ_self k) hk)
  have hne : ∀ i j, i < j → j < E.length → E[i]! ≠ E[j]! := fun i j hij hj e => by
    have := rise_ky h hr hij hj
    rw [e] at this
    omega
  unfold hullRaw
  refine List.pairwise_append.2 ⟨?_, ?_, ?_⟩
  · refine List.pairwise_map.2 (List.Pairwise.imp_of_mem (fun {a b} ha hb hab => ?_) List.pairwise_lt_range)
    rw [List.mem_range] at ha hb
    rw [e1 a (by omega), e1 b (by omega)]
    exact fun e => hne a b hab (by omega) (congrArg Prod.fst e)
  · split
    · exact List.pairwise_singleton _ _
    · exact List.Pairwise.nil
  · intro a ha b hb e
    split at hb
    · obtain ⟨k, hk, rfl⟩ := List.mem_map.1 ha
      rw [List.mem_range] at hk
      rw [List.mem_singleton.1 hb, e1 k (by omega), mkL_ky (hg 0 (by omega)) (hg _ (by omega)) (rise_ky h hr (by omega) (by omega))] at e
      have h1 : E[k]! = E[0]! := congrArg Prod.fst e
      have h2 : E[k + 1]! = E[E.length - 1]! := congrArg Prod.snd e
      rcases Nat.eq_zero_or_pos k with rfl | hk0
      · exact hne 1 (E.length - 1) (by omega) (by omega) h2
      · exact hne 0 k hk0 (by omega) h1.symm
    · cases hb
theorem up_ext : ∀ {L M : List Lf}, Up L → Up M → (∀ l, l ∈ L ↔ l ∈ M) → L = M
  | [], [], _, _, _ => rfl
  | [], y :: m, _, _, h => absurd ((h y).2 (List.mem_cons_self ..)) (by simp)
  | x :: l, [], _, _, h => absurd ((h x).1 (List.mem_cons_self ..)) (by simp)
  | x :: l, y :: m, ⟨aL, hl⟩, ⟨aM, hm⟩, h => by
    obtain ⟨hl1, hl2⟩ := List.pairwise_cons.1 hl
    obtain ⟨hm1, hm2⟩ := List.pairwise_cons.1 hm
    have ax := aL x (List.mem_cons_self ..)
    have ay := aM y (List.mem_cons_self ..)
    have e : x = y := by
      rcases List.mem_cons.1 ((h x).1 (List.mem_cons_self ..)) with e | e
      · exact e
      rcases List.mem_cons.1 ((h y).2 (List.mem_cons_self ..)) with e2 | e2
      · exact e2.symm
      have := ordL_trans ay ax ay (hm1 _ e) (hl1 _ e2)
      rw [ordL_refl] at this
      omega
    subst e
    congr 1
    refine up_ext ⟨fun m hm => aL m (List.mem_cons_of_mem _ hm), hl2⟩ ⟨fun m hm => aM m (List.mem_cons_of_mem _ hm), hm2⟩ fun z => ⟨fun hz => ?_, fun hz => ?_⟩
    · rcases List.mem_cons.1 ((h z).1 (List.mem_cons_of_mem _ hz)) with e | e
      · subst e
        have := hl1 _ hz
        rw [ordL_refl] at this
        omega
      · exact e
    · rcases List.mem_cons.1 ((h z).2 (List.mem_cons_of_mem _ hz)) with e | e
      · subst e
        have := hm1 _ hz
        rw [ordL_refl] at this
        omega
      · exact e
end Go.Proofs.YtoaggmegmgdgbaaGreat
