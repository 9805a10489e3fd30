import Derived.Test.YtoaggmegmgdgbaaGreatUnl
import Derived.Test.YtoaggmegmgdgbaaGreatROpen
namespace Go.Proofs.YtoaggmegmgdgbaaGreat
theorem getBang_memP {α : Type} [Inhabited α] {L : List α} {t : Nat} (ht : t < L.length) : L[t]! ∈ L := by rw [getElem!_pos L t ht]; exact List.getElem_mem ht
structure GrpOk {α : Type} (κ : PT → α) (G : List (List PT)) : Prop where
  ne : ∀ g, g ∈ G → g ≠ []
  ang : ∀ g, g ∈ G → ∀ p, p ∈ g → Ang p
  rise : ∀ g, g ∈ G → Rises below_ g
  one : ∀ g, g ∈ G → ∀ p q, p ∈ g → q ∈ g → κ p = κ q
  two : G.Pairwise fun g h => ∀ p q, p ∈ g → q ∈ h → κ p ≠ κ q
def grpE {α : Type} [DecidableEq α] (κ : PT → α) (E : List PT) : List (List PT) := grpG (fun k => κ E[k]!) (fun k => E[k]!) E.length
theorem grpE_ok {α : Type} [DecidableEq α] {κ : PT → α} {E : List PT} (hE : ∀ p, p ∈ E → Ang p) (hr : Rises below_ E) : GrpOk κ (grpE κ E) := by
  have hg : ∀ g, g ∈ grpE κ E → ∃ r, r ∈ repsG (fun k => κ E[k]!) E.length ∧ g = ((List.range E.length).filter fun j => decide (κ E[j]! = κ E[r]!)).map fun k => E[k]! := fun g h => by
    obtain ⟨r, hr, rfl⟩ := List.mem_map.1 h
    exact ⟨r, hr, rfl⟩
  have hm : ∀ {r : Nat} {p : PT}, p ∈ ((List.range E.length).filter fun j => decide (κ E[j]! = κ E[r]!)).map (fun k => E[k]!) → ∃ j, j < E.length ∧ p = E[j]! ∧ κ E[j]! = κ E[r]! := fun {r p} h => by
    obtain ⟨j, hj, rfl⟩ := List.mem_map.1 h
    obtain ⟨h1, h2⟩ := List.mem_filter.1 hj
    exact ⟨j, List.mem_range.1 h1, rfl, of_decide_eq_true h2⟩
  refine ⟨fun g h => ?_, fun g h p hp => ?_, fun g h => ?_, fun g h p q hp hq => ?_, ?_⟩
  · obtain ⟨r, hr, rfl⟩ := hg g h
    have hlt := repsG_lt _ _ hr
    exact List.ne_nil_of_mem (List.mem_map.2 ⟨r, List.mem_filter.2 ⟨List.mem_range.2 hlt, by simp⟩, rfl⟩)
  · obtain ⟨r, hr, rfl⟩ := hg g h
    obtain ⟨j, hj, rfl, -⟩ := hm hp
    exact hE _ (getBang_memP hj)
  · obtain ⟨r, -, rfl⟩ := hg g h
    unfold Rises
    refine List.pairwise_map.2 (List.Pairwise.imp_of_mem (fun {a b} ha hb hab => ?_) (List.pairwise_lt_range.filter _))
    have hb2 := List.mem_range.1 (List.mem_filter.1 hb).1
    have h3 := rise_ky hE hr hab hb2
    exact (ky_lt (hE _ (getBang_memP (by omega))) (hE _ (getBang_memP hb2))).2 h3
  · obtain ⟨r, -, rfl⟩ := hg g h
    obtain ⟨j, hj, rfl, e1⟩ := hm hp
    obtain ⟨k, hk, rfl, e2⟩ := hm hq
    exact e1.trans e2.symm
  · unfold grpE grpG
    refine List.pairwise_map.2 ?_
    have hnd := repsG_nodup (κ := fun k => κ E[k]!) E.length
    refine (List.pairwise_map.1 hnd).imp fun {a b} hab p q hp hq => ?_
    obtain ⟨j, hj, rfl, e1⟩ := hm hp
    obtain ⟨k, hk, rfl, e2⟩ := hm hq
    rw [e1, e2]
    exact hab
theorem len_mod {β : Type} (x : β) : ∀ (l : List (List β)) (i : Nat), i < l.length → ((l.modify i (· ++ [x])).map List.length).sum = (l.map List.length).sum + 1
  | [], i, h => by simp at h
  | g :: l, 0, _ => by simp [List.modify]; omega
  | g :: l, i + 1, h => by
    have ih := len_mod x l i (by simpa using h)
    simp only [List.modify_succ_cons, List.map_cons, List.sum_cons, ih]; omega
theorem grpG_total {α β : Type} [DecidableEq α] {κ : Nat → α} (arc : Nat → β) : ∀ k, ((grpG κ arc k).map List.length).sum = k
  | 0 => rfl
  | k + 1 => by
    have ih := grpG_total (κ := κ) arc k
    by_cases hm : κ k ∈ (repsG κ k).map κ
    · obtain ⟨i, hi, e⟩ := List.mem_iff_getElem.1 hm
      rw [List.getElem_map] at e
      have hi' : i < (repsG κ k).length := by simpa using hi
      rw [grpG_old hi' e, len_mod _ _ _ (by rw [grpG_len]; exact hi'), ih]
    · rw [grpG_new hm, List.map_append, List.sum_append, ih]
      rfl
theorem hull_edge {E : List PT} (hE : ∀ p, p ∈ E → Ang p) (hr : Rises below_ E) {m : Lf} (hm : m ∈ hullL E) : ∃ i j, i < j ∧ j < E.length ∧ m = (E[i]!, E[j]!) ∧ (j = i + 1 ∨ (i = 0 ∧ j = E.length - 1)) := by
  have h1 := ((foldl_putS (hullRaw E) up_nil (hullRaw_ang hE)).2 m).1 hm
  have h2 : m ∈ hullRaw E := h1.resolve_left (by simp)
  have hg : ∀ k, k < E.length → Ang E[k]! := fun k hk => hE _ (getBang_memP hk)
  unfold hullRaw at h2
  rcases List.mem_append.1 h2 with h | h
  · obtain ⟨k, hk, rfl⟩ := List.mem_map.1 h
    rw [List.mem_range] at hk
    exact ⟨k, k + 1, by omega, by omega, mkL_ky (hg k (by omega)) (hg (k + 1) (by omega)) (rise_ky hE hr (by omega) (by omega)), .inl rfl⟩
  · split at h
    · rw [List.mem_singleton.1 h]
      exact ⟨0, E.length - 1, by omega, by omega, mkL_ky (hg 0 (by omega)) (hg _ (by omega)) (rise_ky hE hr (by omega) (by omega)), .inr ⟨rfl, rfl⟩⟩
    · cases h
theorem rise_iff {E : List PT} (hE : ∀ p, p ∈ E → Ang p) (hr : Rises below_ E) {i j : Nat} (hi : i < E.length) (hj : j < E.length) : ky E[i]! < ky E[j]! ↔ i < j := by
  constructor
  · intro h
    rcases Nat.lt_trichotomy i j with h1 | h1 | h1
    · exact h1
    · subst h1; omega
    · have := rise_ky hE hr h1 hi; omega
  · intro h; exact rise_ky hE hr h hj
theorem hull_lfp {E : List PT} (hE : ∀ p, p ∈ E → Ang p) (hr : Rises below_ E) {m : Lf} (hm : m ∈ hullL E) : Lfp m := by
  obtain ⟨i, j, hij, hj, rfl, -⟩ := hull_edge hE hr hm
  have a1 := hE _ (getBang_memP (show i < E.length by omega))
  have a2 := hE _ (getBang_memP hj)
  exact ⟨⟨a1, a2⟩, (ky_lt a1 a2).2 (rise_ky hE hr hij hj)⟩
theorem hull_same {E : List PT} (hE : ∀ p, p ∈ E → Ang p) (hr : Rises below_ E) {m m' : Lf} (hm : m ∈ hullL E) (hm' : m' ∈ hullL E) : crossP m m' = false := by
  have l1 := hull_lfp hE hr hm
  have l2 := hull_lfp hE hr hm'
  obtain ⟨i, j, hij, hj, rfl, h1⟩ := hull_edge hE hr hm
  obtain ⟨k, l, hkl, hl, rfl, h2⟩ := hull_edge hE hr hm'
  rw [Bool.eq_false_iff, ne_eq, crossP_ky l1 l2]
  have e1 := rise_iff hE hr (show i < E.length by omega) (show k < E.length by omega)
  have e2 := rise_iff hE hr (show k < E.length by omega) hj
  have e3 := rise_iff hE hr hj hl
  have e4 := rise_iff hE hr (show k < E.length by omega) (show i < E.length by omega)
  have e5 := rise_iff hE hr (show i < E.length by omega) hl
  have e6 := rise_iff hE hr hl hj
  simp only [e1, e2, e3, e4, e5, e6]
  omega
theorem hull_own {E : List PT} (hE : ∀ p, p ∈ E → Ang p) (hr : Rises below_ E) {m : Lf} (hm : m ∈ hullL E) {p q : PT} (hp : p ∈ E) (hq : q ∈ E) : partsP m p q = false := by
  have l1 := hull_lfp hE hr hm
  obtain ⟨i, j, hij, hj, rfl, h1⟩ := hull_edge hE hr hm
  obtain ⟨a, ha, rfl⟩ := List.mem_iff_getElem.1 hp
  obtain ⟨b, hb, rfl⟩ := List.mem_iff_getElem.1 hq
  rw [← getElem!_pos E a ha, ← getElem!_pos E b hb]
  rw [Bool.eq_false_iff, ne_eq, partsP_ky l1.1 (hE _ (getBang_memP ha)) (hE _ (getBang_memP hb))]
  have hi : i < E.length := by omega
  have e1 := rise_iff hE hr hi ha
  have e2 := rise_iff hE hr ha hi
  have e3 := rise_iff hE hr hj ha
  have e4 := rise_iff hE hr ha hj
  have e5 := rise_iff hE hr hi hb
  have e6 := rise_iff hE hr hb hi
  have e7 := rise_iff hE hr hj hb
  have e8 := rise_iff hE hr hb hj
  simp only [e1, e4, e5, e8]
  omega
theorem putS_le (L : List Lf) (l : Lf) : (putS L l).length ≤ L.length + 1 := by
  unfold putS
  split
  · omega
  · rw [putL_length (plcL_le L l)]; exact Nat.le_refl _
theorem hull_len (E : List PT) : (hullL E).length ≤ E.length := by
  have h : ∀ (l : List Lf) (L : List Lf), (l.foldl putS L).length ≤ L.length + l.length := by
    intro l
    induction l with
    | nil => intro L; simp
    | cons a r ih =>
      intro L
      rw [List.foldl_cons, List.length_cons]
      have h1 := ih (putS L a)
      have h2 := putS_le L a
      omega
  have h1 := h (hullRaw E) []
  have h2 : (hullRaw E).length ≤ E.length := by
    unfold hullRaw
    rw [List.length_append, List.length_map, List.length_range]
    split
    · simp; omega
    · simp
  unfold hullL
  rw [List.length_nil] at h1
  omega
theorem up_nodup {L : List Lf} (h : Up L) : L.Nodup := h.2.imp fun {a b} hab e => by
  subst e
  have h1 : ordL a a = 0 := by unfold ordL; rw [cmpP_refl, cmpP_refl]; rfl
  omega
theorem hull_up {E : List PT} (hE : ∀ p, p ∈ E → Ang p) : Up (hullL E) := (foldl_putS (hullRaw E) up_nil (hullRaw_ang hE)).1
structure HOk (G : List (List PT)) : Prop where
  lf : ∀ m, m ∈ G.flatMap hullL → Lfp m
  nc : ∀ m m', m ∈ G.flatMap hullL → m' ∈ G.flatMap hullL → crossP m m' = false
  nd : (G.flatMap hullL).Nodup
  parts : ∀ m, m ∈ G.flatMap hullL → ∀ g, g ∈ G → ∀ p q, p ∈ g → q ∈ g → partsP m p q = false
theorem hok {s t d : Nat} {G : List (List PT)} (hst : s < t) (hd : 2 ≤ d) (hd2 : d ≤ 64) (h : GrpOk (rowK s t d) G) : HOk G := by
  have two : ∀ g g', g ∈ G → g' ∈ G → ∀ p q, p ∈ g → q ∈ g' → rowK s t d p = rowK s t d q → g = g' := fun g g' hg hg' p q hp hq e => by
    obtain ⟨i, hi, rfl⟩ := List.mem_iff_getElem.1 hg
    obtain ⟨j, hj, rfl⟩ := List.mem_iff_getElem.1 hg'
    rcases Nat.lt_trichotomy i j with h1 | h1 | h1
    · exact absurd e (List.pairwise_iff_getElem.1 h.two i j hi hj h1 p q hp hq)
    · subst h1; rfl
    · exact absurd e.symm (List.pairwise_iff_getElem.1 h.two j i hj hi h1 q p hq hp)
  have ends : ∀ g, g ∈ G → ∀ m, m ∈ hullL g → m.1 ∈ g ∧ m.2 ∈ g ∧ Lfp m := fun g hg m hm => by
    have l1 := hull_lfp (h.ang g hg) (h.rise g hg) hm
    obtain ⟨i, j, hij, hj, rfl, -⟩ := hull_edge (h.ang g hg) (h.rise g hg) hm
    exact ⟨getBang_memP (by omega), getBang_memP hj, l1⟩
  refine ⟨fun m hm => ?_, fun m m' hm hm' => ?_, ?_, fun m hm g hg p q hp hq => ?_⟩
  · obtain ⟨g, hg, hm⟩ := List.mem_flatMap.1 hm
    exact (ends g hg m hm).2.2
  · obtain ⟨g, hg, hm⟩ := List.mem_flatMap.1 hm
    obtain ⟨g', hg', hm'⟩ := List.mem_flatMap.1 hm'
    obtain ⟨e1, e2, l1⟩ := ends g hg m hm
    obtain ⟨e3, e4, l2⟩ := ends g' hg' m' hm'
    cases hc : crossP m m' with
    | false => rfl
    | true =>
      have hk := (crossP_ky l1 l2).1 hc
      have hl : lk (ky m.1) (ky m.2) (ky m'.1) (ky m'.2) := by
        have := l1.ky
        have := l2.ky
        unfold lk btw3
        omega
      have e := unlinkedK hst hd hd2 l1.1.1 l1.1.2 l2.1.1 l2.1.2 hl (h.one g hg _ _ e1 e2) (h.one g' hg' _ _ e3 e4)
      have := two g g' hg hg' _ _ e1 e3 e
      subst this
      rw [hull_same (h.ang g hg) (h.rise g hg) hm hm'] at hc
      exact Bool.noConfusion hc
  · have h1 := h.two
    have hne := h.ne
    have hang := h.ang
    have hends : ∀ g, g ∈ G → ∀ m, m ∈ hullL g → m.1 ∈ g := fun g hg m hm => (ends g hg m hm).1
    clear two ends h
    induction G with
    | nil => exact List.nodup_nil
    | cons g G ih =>
      obtain ⟨k1, k2⟩ := List.pairwise_cons.1 h1
      rw [List.flatMap_cons]
      refine List.pairwise_append.2 ⟨up_nodup (hull_up (hang g (List.mem_cons_self ..))), ih k2 (fun g' hg' => hne g' (List.mem_cons_of_mem _ hg')) (fun g' hg' => hang g' (List.mem_cons_of_mem _ hg')) (fun g' hg' => hends g' (List.mem_cons_of_mem _ hg')), fun a ha b hb e => ?_⟩
      subst e
      obtain ⟨g', hg', hb⟩ := List.mem_flatMap.1 hb
      exact k1 g' hg' a.1 a.1 (hends g (List.mem_cons_self ..) a ha) (hends g' (List.mem_cons_of_mem _ hg') a hb) rfl
  · obtain ⟨g', hg', hm⟩ := List.mem_flatMap.1 hm
    obtain ⟨e1, e2, l1⟩ := ends g' hg' m hm
    have ap := h.ang g hg p hp
    have aq := h.ang g hg q hq
    cases hc : partsP m p q with
    | false => rfl
    | true =>
      have hk := (partsP_ky l1.1 ap aq).1 hc
      have hl : lk (ky m.1) (ky m.2) (ky p) (ky q) := by
        have := l1.ky
        unfold lk btw3
        omega
      have e := unlinkedK hst hd hd2 l1.1.1 l1.1.2 ap aq hl (h.one g' hg' _ _ e1 e2) (h.one g hg _ _ hp hq)
      have := two g' g hg' hg _ _ e1 hp e
      subst this
      rw [hull_own (h.ang g' hg') (h.rise g' hg') hm hp hq] at hc
      exact Bool.noConfusion hc
theorem hok_nil : HOk [] := ⟨fun m hm => absurd hm (by simp), fun m _ hm => absurd hm (by simp), List.nodup_nil, fun m hm => absurd hm (by simp)⟩
def addF (H : List Lf) : List Lf := H.foldl (fun L m => (addL L m).1) []
theorem addF_snoc (H : List Lf) (x : Lf) : addF (H ++ [x]) = (addL (addF H) x).1 := by simp [addF]
theorem add_new {L : List Lf} {x : Lf} (hL : LOk L) (hx : Lfp x) (hn : x ∉ L) (hc : ∀ m, m ∈ L → crossP x m = false) (hlen : L.length < 4096) :
    addL L x = (putS L x, 0) ∧ (putS L x).length = L.length + 1 := by
  have hany : L.any (crossP x) = false := List.any_eq_false.2 fun m hm => by rw [hc m hm]; exact Bool.false_ne_true
  refine ⟨?_, by unfold putS; rw [if_neg hn, putL_length (plcL_le L x)]⟩
  unfold addL putS
  rw [if_neg hn, if_neg hn, hany, if_neg Bool.false_ne_true, if_neg (by omega)]
theorem addF_pre {H : List Lf} (hl : ∀ m, m ∈ H → Lfp m) (hc : ∀ m m', m ∈ H → m' ∈ H → crossP m m' = false) (hn : H.Nodup) (hlen : H.length ≤ 4096) :
    ∀ (k : Nat) (P : List Lf), P.length = k → P <+: H → LOk (addF P) ∧ (addF P).length = k ∧ (∀ m, m ∈ addF P ↔ m ∈ P) := by
  intro k
  induction k with
  | zero =>
    intro P hP _
    have : P = [] := List.eq_nil_of_length_eq_zero hP
    subst this
    exact ⟨LOk.nil, rfl, fun m => Iff.rfl⟩
  | succ k ih =>
    intro P hP hpre
    obtain ⟨Q, x, rfl⟩ : ∃ Q x, P = Q ++ [x] := ⟨P.dropLast, P.getLast (fun e => by rw [e] at hP; simp at hP), (List.dropLast_concat_getLast _).symm⟩
    have hQ : Q.length = k := by simp at hP; exact hP
    have hQp : Q <+: H := (List.prefix_append Q [x]).trans hpre
    obtain ⟨i1, i2, i3⟩ := ih Q hQ hQp
    have hx : x ∈ H := hpre.subset (by simp)
    have hxQ : x ∉ Q := by
      have h1 : (Q ++ [x]).Nodup := hn.sublist hpre.sublist
      have h2 := (List.pairwise_append.1 h1).2.2
      exact fun h => h2 x h x (by simp) rfl
    have hk : k + 1 ≤ H.length := by rw [← hP]; exact hpre.length_le
    obtain ⟨j1, j2⟩ := add_new i1 (hl x hx) (fun h => hxQ ((i3 x).1 h)) (fun m hm => hc x m hx (hQp.subset ((i3 m).1 hm))) (by omega)
    rw [addF_snoc, j1]
    refine ⟨?_, by rw [j2, i2], fun m => ?_⟩
    · have := addL_ok i1 (hl x hx)
      rwa [j1] at this
    · show m ∈ putS _ _ ↔ _
      rw [mem_putS, i3, List.mem_append, List.mem_singleton]
      exact or_comm
theorem addF_step {H : List Lf} (hl : ∀ m, m ∈ H → Lfp m) (hc : ∀ m m', m ∈ H → m' ∈ H → crossP m m' = false) (hn : H.Nodup) (hlen : H.length ≤ 4096) {P : List Lf} {x : Lf} (hpre : P ++ [x] <+: H) :
    addL (addF P) x = (addF (P ++ [x]), 0) := by
  have hQp : P <+: H := (List.prefix_append P [x]).trans hpre
  obtain ⟨i1, i2, i3⟩ := addF_pre hl hc hn hlen _ P rfl hQp
  have hx : x ∈ H := hpre.subset (by simp)
  have hxQ : x ∉ P := by
    have h1 : (P ++ [x]).Nodup := hn.sublist hpre.sublist
    have h2 := (List.pairwise_append.1 h1).2.2
    exact fun h => h2 x h x (by simp) rfl
  have hk : P.length + 1 ≤ H.length := by have := hpre.length_le; simpa using this
  obtain ⟨j1, j2⟩ := add_new i1 (hl x hx) (fun h => hxQ ((i3 x).1 h)) (fun m hm => hc x m hx (hQp.subset ((i3 m).1 hm))) (by omega)
  rw [addF_snoc, j1]
def preH (G : List (List PT)) (i j : Nat) : List Lf := (G.take i).flatMap hullL ++ (hullL G[i]!).take j
theorem preH_zero (G : List (List PT)) : preH G 0 0 = [] := by simp [preH]
theorem preH_step {G : List (List PT)} {i j : Nat} (hj : j < (hullL G[i]!).length) : preH G i (j + 1) = preH G i j ++ [(hullL G[i]!)[j]!] := by
  unfold preH
  rw [List.take_succ_eq_append_getElem hj, List.append_assoc, getElem!_pos (hullL G[i]!) j hj]
theorem preH_next {G : List (List PT)} {i : Nat} (hi : i < G.length) : preH G i (hullL G[i]!).length = preH G (i + 1) 0 := by
  unfold preH
  rw [List.take_length, List.take_succ_eq_append_getElem hi, List.flatMap_append, getElem!_pos G i hi]
  simp
theorem preH_pre {G : List (List PT)} {i j : Nat} (hi : i < G.length) : preH G i j <+: G.flatMap hullL := by
  have e : G = G.take i ++ G[i] :: G.drop (i + 1) := by rw [← List.drop_eq_getElem_cons hi, List.take_append_drop]
  conv => rhs; rw [e]
  rw [List.flatMap_append, List.flatMap_cons]
  unfold preH
  rw [getElem!_pos G i hi]
  refine List.prefix_append_right_inj _ |>.2 ?_
  exact (List.take_prefix _ _).trans (List.prefix_append _ _)
theorem preH_end (G : List (List PT)) : preH G G.length 0 = G.flatMap hullL := by simp [preH]
theorem allH_len (G : List (List PT)) : (G.flatMap hullL).length ≤ (G.map List.length).sum := by
  induction G with
  | nil => simp
  | cons g G ih =>
    rw [List.flatMap_cons, List.length_append, List.map_cons, List.sum_cons]
    have := hull_len g
    omega
end Go.Proofs.YtoaggmegmgdgbaaGreat
