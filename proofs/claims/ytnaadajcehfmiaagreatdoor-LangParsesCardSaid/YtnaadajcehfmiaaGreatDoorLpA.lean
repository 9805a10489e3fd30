/- Lang: the trees of parts, plainly; what the parser makes is a row of trees. -/
import Derived.Test.YtnaadajcehfmiaaGreatDoorLrH
namespace Go.Proofs.YtnaadajcehfmiaaGreatDoor

/-- A part with its parts. -/
inductive Ex where
  | num (t : List Nat)
  | i
  | z
  | name (t : List Nat)
  | neg (e : Ex)
  | pow (e : Ex) (n : Nat)
  | bin (k : Nat) (x y : Ex)
def Ex.size : Ex → Nat
  | .neg e => e.size + 1
  | .pow e _ => e.size + 1
  | .bin _ x y => x.size + y.size + 1
  | _ => 1
def Ex.high : Ex → Nat
  | .neg e => 1 + e.high
  | .pow e _ => 1 + e.high
  | .bin _ x y => 1 + max x.high y.high
  | _ => 1
/-- The parts in a row, from a place on. -/
def Ex.flat : Ex → Nat → List Nod
  | .num t, _ => [⟨1, t, 0, 0, 0⟩]
  | .i, _ => [⟨2, [], 0, 0, 0⟩]
  | .z, _ => [⟨3, [], 0, 0, 0⟩]
  | .name t, _ => [⟨4, t, 0, 0, 0⟩]
  | .neg e, b => e.flat b ++ [⟨5, [], b + e.size - 1, 0, 0⟩]
  | .pow e n, b => e.flat b ++ [⟨10, [], b + e.size - 1, 0, n⟩]
  | .bin k x y, b => x.flat b ++ y.flat (b + x.size) ++ [⟨k, [], b + x.size - 1, b + x.size + y.size - 1, 0⟩]
def Ex.hts : Ex → List Nat
  | .neg e => e.hts ++ [1 + e.high]
  | .pow e _ => e.hts ++ [1 + e.high]
  | .bin _ x y => x.hts ++ y.hts ++ [1 + max x.high y.high]
  | _ => [1]
def Ex.lvl : Ex → Nat
  | .neg _ => 3
  | .pow _ _ => 4
  | .bin k _ _ => if k = 6 ∨ k = 7 then 1 else 2
  | _ => 5
/-- How long the shortest text is, without brackets of its own. -/
def Ex.wt : Ex → Nat
  | .num t => t.length
  | .i => 1
  | .z => 1
  | .name t => t.length
  | .neg e => 1 + (e.wt + if e.lvl < 3 then 2 else 0)
  | .pow e n => (e.wt + if e.lvl < 5 then 2 else 0) + 1 + (digL n).length
  | .bin k x y => (x.wt + if x.lvl < (if k = 6 ∨ k = 7 then 1 else 2) then 2 else 0) + 1 + (y.wt + if y.lvl < (if k = 6 ∨ k = 7 then 2 else 3) then 2 else 0)
def Ex.wl (l : Nat) (e : Ex) : Nat := e.wt + if e.lvl < l then 2 else 0
theorem Ex.size_pos (e : Ex) : 0 < e.size := by cases e <;> simp [Ex.size]
theorem Ex.flat_len : ∀ (e : Ex) (b : Nat), (e.flat b).length = e.size
  | .num _, _ => rfl
  | .i, _ => rfl
  | .z, _ => rfl
  | .name _, _ => rfl
  | .neg e, b => by simp [Ex.flat, Ex.size, Ex.flat_len e]
  | .pow e n, b => by simp [Ex.flat, Ex.size, Ex.flat_len e]
  | .bin k x y, b => by simp [Ex.flat, Ex.size, Ex.flat_len x, Ex.flat_len y]; omega
theorem Ex.hts_len : ∀ (e : Ex), e.hts.length = e.size
  | .num _ => rfl
  | .i => rfl
  | .z => rfl
  | .name _ => rfl
  | .neg e => by simp [Ex.hts, Ex.size, Ex.hts_len e]
  | .pow e n => by simp [Ex.hts, Ex.size, Ex.hts_len e]
  | .bin k x y => by simp [Ex.hts, Ex.size, Ex.hts_len x, Ex.hts_len y]; omega
theorem Ex.hts_last (e : Ex) : e.hts[e.size - 1]? = some e.high := by
  cases e with
  | neg e => simp [Ex.hts, Ex.size, Ex.high, ← Ex.hts_len e]
  | pow e n => simp [Ex.hts, Ex.size, Ex.high, ← Ex.hts_len e]
  | bin k x y =>
    have h : (x.hts ++ y.hts).length = x.size + y.size := by rw [List.length_append, Ex.hts_len, Ex.hts_len]
    simp only [Ex.hts, Ex.size, Ex.high, Nat.add_sub_cancel]
    rw [← h, List.getElem?_append_right (Nat.le_refl _)]
    simp
  | _ => rfl
theorem Ex.wl_mono {l m : Nat} (h : l ≤ m) (e : Ex) : e.wl l ≤ e.wl m := by
  unfold Ex.wl
  by_cases h1 : e.lvl < l
  · rw [if_pos h1, if_pos (by omega)]; exact Nat.le_refl _
  · rw [if_neg h1]; omega
theorem Ex.wl_le {l m : Nat} (e : Ex) : e.wl l ≤ e.wl m + 2 := by
  unfold Ex.wl
  split <;> split <;> omega
/-- A right token: it is one by itself. -/
def VT (t : List Nat) : Prop := tokT t 0 = some t.length ∧ t ≠ [] ∧ Byt t
/-- A right tree: its numbers and names are tokens; its names are known. -/
def OkX (nm : List (List Nat)) : Ex → Prop
  | .num t => isNum t = true ∧ VT t
  | .i => True
  | .z => True
  | .name t => isName t = true ∧ VT t ∧ t ∈ nm
  | .neg e => OkX nm e
  | .pow e n => OkX nm e ∧ n ≤ 64
  | .bin k x y => (6 ≤ k ∧ k ≤ 9) ∧ OkX nm x ∧ OkX nm y
def plT (last : Nat) : List Tok → Nat
  | [] => last
  | t :: _ => t.at_
/-- The word let and a name do not touch. -/
def gapT (t : Tok) : List Tok → Nat
  | [] => 0
  | u :: _ => if t.text = [108, 101, 116] ∧ isName u.text = true then 1 else 0
def TkO (last : Nat) : List Tok → Prop
  | [] => True
  | t :: T => VT t.text ∧ t.at_ + t.text.length + gapT t T ≤ plT last T ∧ TkO last T
theorem pl_eq (last : Nat) (st : PS) : st.pl last = plT last st.T := by
  unfold PS.pl plT
  cases st.T <;> rfl
theorem TkO.on {last : Nat} {st : PS} (h : TkO last st.T) : TkO last st.on.T ∧ st.pl last + st.tx.length ≤ st.on.pl last := by
  rw [pl_eq, pl_eq]
  unfold PS.on PS.tx
  rcases hT : st.T with _ | ⟨t, T⟩
  · exact ⟨trivial, Nat.le_refl _⟩
  · rw [hT] at h
    refine ⟨h.2.2, ?_⟩
    have := h.2.1
    show t.at_ + t.text.length ≤ plT last T
    omega
theorem TkO.on_gap {last : Nat} {st : PS} (h : TkO last st.T) (h1 : st.tx = [108, 101, 116]) (h2 : isName st.on.tx = true) : st.pl last + 4 ≤ st.on.pl last := by
  rw [pl_eq, pl_eq]
  unfold PS.on PS.tx at *
  rcases hT : st.T with _ | ⟨t, T⟩
  · rw [hT] at h1; cases h1
  · rw [hT] at h h1 h2
    simp only [List.tail_cons] at h1 h2 ⊢
    rcases T with _ | ⟨u, T⟩
    · cases h2
    · have h3 := h.2.1
      have e : gapT t (u :: T) = 1 := if_pos ⟨h1, h2⟩
      rw [e, h1] at h3
      exact h3
theorem TkO.tx {last : Nat} {st : PS} (h : TkO last st.T) (h0 : st.tx ≠ []) : VT st.tx := by
  unfold PS.tx at *
  rcases hT : st.T with _ | ⟨t, T⟩
  · rw [hT] at h0; exact absurd rfl h0
  · rw [hT] at h; exact h.1
/-- The parts e were added, v is their last place. -/
structure Ads (st st' : PS) (v : Nat) (e : Ex) : Prop where
  N : st'.N = st.N ++ e.flat st.N.length
  H : st'.H = st.H ++ e.hts
  L : st'.L = st.L
  v : v + 1 = st.N.length + e.size
  m : st'.N.length ≤ 4096
  hi : e.high ≤ 64
theorem Ads.hl {st st' : PS} {v : Nat} {e : Ex} (h : Ads st st' v e) (hl : st.H.length = st.N.length) : st'.H.length = st'.N.length := by
  rw [h.N, h.H, List.length_append, List.length_append, Ex.flat_len, Ex.hts_len, hl]
theorem Ads.nl {st st' : PS} {v : Nat} {e : Ex} (h : Ads st st' v e) : st'.N.length = st.N.length + e.size := by
  rw [h.N, List.length_append, Ex.flat_len]
theorem Ads.high {st st' : PS} {v : Nat} {e : Ex} (h : Ads st st' v e) (hl : st.H.length = st.N.length) : st'.hi v = e.high := by
  have h1 := h.v
  have h2 := e.size_pos
  unfold PS.hi
  rw [h.H, List.getD_eq_getElem?_getD, List.getElem?_append_right (by omega), show v - st.H.length = e.size - 1 by omega, e.hts_last]
  rfl
/-- What is added behind stays away from the heights ahead. -/
theorem Ads.high2 {st st1 st' : PS} {v w : Nat} {e f : Ex} (h : Ads st st1 v e) (hl : st.H.length = st.N.length) (h' : Ads st1 st' w f) : st'.hi v = e.high := by
  have h1 := h.v
  have h2 := e.size_pos
  have h3 : v < st1.H.length := by rw [h.hl hl, h.nl]; omega
  rw [← h.high hl]
  unfold PS.hi
  rw [h'.H, List.getD_eq_getElem?_getD, List.getD_eq_getElem?_getD, List.getElem?_append_left h3]
/-- A part that is made. -/
structure Mk (last l : Nat) (st st' : PS) (v : Nat) (e : Ex) : Prop where
  a : Ads st st' v e
  o : OkX st.names e
  t : TkO last st'.T
  p : st.pl last + e.wl l ≤ st'.pl last
def Snd (last l : Nat) (f : PF) : Prop := ∀ st v st', f st = some (.ok v st') → TkO last st.T → st.H.length = st.N.length → ∃ e, Mk last l st st' v e
theorem addP_max {n : Nod} {h at_ : Nat} {st st' : PS} {v : Nat} (e : addP n h at_ st = .ok v st') : st.N.length < 4096 ∧ h ≤ 64 := by
  unfold addP at e
  split at e
  · cases e
  · split at e
    · cases e
    · exact ⟨by omega, by omega⟩
theorem addOn_atom {last : Nat} {n : Nod} {x : Ex} {st st' : PS} {v : Nat} (e : addOn n 1 (st.pl last) st = .ok v st') (hx : x.flat st.N.length = [n]) (hh : x.hts = [1]) (hs : x.size = 1) (hg : x.high = 1) (hw : x.wl 5 = st.tx.length) (ho : OkX st.names x) (ht : TkO last st.T) : Mk last 5 st st' v x := by
  unfold addOn at e
  split at e
  · rename_i v1 st1 he
    injection e with e1 e2
    have hm := addP_max he
    obtain ⟨hv, rfl⟩ := addP_ok he
    subst e2
    subst e1
    have h1 := ht.on
    refine ⟨⟨by rw [hx]; rfl, by rw [hh]; rfl, rfl, by rw [hs, hv], ?_, by omega⟩, ho, h1.1, by rw [hw]; exact h1.2⟩
    show (st.N ++ [n]).length ≤ 4096
    rw [List.length_append, List.length_singleton]; omega
  · cases e
theorem atomP_snd {last : Nat} {wrong : Bool} {inner : Option PF} (h : ∀ f, inner = some f → Snd last 1 f) : Snd last 5 (atomP last wrong inner) := by
  intro st v st' e ht hl
  unfold atomP at e
  split at e
  · rename_i hx
    rcases inner with _ | f
    · cases e
    · simp only at e
      rcases hf : f st.on with _ | (⟨v1, st1⟩ | ⟨x, y⟩)
      · rw [hf] at e; cases e
      · rw [hf] at e
        simp only at e
        rcases hk : takeP last wrong [41] st1 with ⟨u, st2⟩ | ⟨x, y⟩
        · rw [hk] at e
          injection e with e
          injection e with e1 e2
          subst e1
          subst e2
          obtain ⟨hx2, rfl⟩ := takeP_ok hk
          obtain ⟨ex, hM⟩ := h f rfl st.on v1 st1 hf ht.on.1 hl
          have h1 := ht.on.2
          have h2 := hM.t.on.2
          rw [hx] at h1
          rw [hx2] at h2
          have h3 := hM.p
          have h4 := ex.wl_le (l := 5) (m := 1)
          refine ⟨ex, ⟨hM.a.N, hM.a.H, hM.a.L, hM.a.v, hM.a.m, hM.a.hi⟩, hM.o, hM.t.on.1, ?_⟩
          simp only [List.length_cons, List.length_nil] at h1 h2
          omega
        · rw [hk] at e; cases e
      · rw [hf] at e; cases e
  · split at e
    · rename_i hx
      exact ⟨.i, addOn_atom (Option.some.inj e) rfl rfl rfl rfl (by rw [hx]; rfl) trivial ht⟩
    · split at e
      · rename_i hx
        exact ⟨.z, addOn_atom (Option.some.inj e) rfl rfl rfl rfl (by rw [hx]; rfl) trivial ht⟩
      · split at e
        · rename_i hn
          have h0 : st.tx ≠ [] := fun e => by rw [e] at hn; cases hn
          split at e
          · rename_i hm
            exact ⟨.name st.tx, addOn_atom (Option.some.inj e) rfl rfl rfl rfl rfl ⟨hn, ht.tx h0, hm⟩ ht⟩
          · cases e
        · split at e
          · rename_i hn
            have h0 : st.tx ≠ [] := fun e => by rw [e] at hn; cases hn
            exact ⟨.num st.tx, addOn_atom (Option.some.inj e) rfl rfl rfl rfl rfl ⟨hn, ht.tx h0⟩ ht⟩
          · exact (unwP_ok (Option.some.inj e)).elim
theorem powerP_snd {last : Nat} {wrong : Bool} {inner : Option PF} (h : ∀ f, inner = some f → Snd last 1 f) : Snd last 4 (powerP last wrong inner) := by
  intro st v st' e ht hl
  unfold powerP at e
  rcases hf : atomP last wrong inner st with _ | (⟨a, st1⟩ | ⟨x, y⟩)
  · rw [hf] at e; cases e
  · rw [hf] at e
    obtain ⟨ex, hM⟩ := atomP_snd h st a st1 hf ht hl
    have e : some (powK last wrong a st1) = some (.ok v st') := e
    have e := Option.some.inj e
    unfold powK at e
    split at e
    · rename_i hx
      split at e
      · split at e
        · cases e
        · rename_i n hw
          have hm := addP_max e
          obtain ⟨hv, rfl⟩ := addP_ok e
          obtain ⟨hd, hn⟩ := digL_whole hw
          have h1 := hM.t.on
          have h2 := h1.1.on
          have h3 := hM.p
          have h4 := h1.2
          have h5 := h2.2
          rw [hx] at h4
          rw [hd] at h5
          have hnl := hM.a.nl
          rw [hM.a.high hl] at hm
          refine ⟨.pow ex n, ⟨?_, ?_, hM.a.L, ?_, ?_, hm.2⟩, ⟨hM.o, hn⟩, h2.1, ?_⟩
          · show st1.N ++ _ = _
            rw [hM.a.N, List.append_assoc]
            have : a = st.N.length + ex.size - 1 := by have := hM.a.v; omega
            rw [this]; rfl
          · show st1.H ++ _ = _
            rw [hM.a.high hl, hM.a.H, List.append_assoc]; rfl
          · show v + 1 = st.N.length + (ex.size + 1)
            have : v = st1.N.length := hv
            omega
          · show (st1.N ++ _).length ≤ 4096
            have : st1.N.length < 4096 := hm.1
            rw [List.length_append, List.length_singleton]; omega
          · have h6 : st.pl last + ((ex.wt + if ex.lvl < 5 then 2 else 0) + 1 + (digL n).length + 0) ≤ st1.on.on.pl last := by
              unfold Ex.wl at h3
              simp only [List.length_cons, List.length_nil] at h4
              omega
            exact h6
      · exact (unwP_ok e).elim
    · injection e with e1 e2
      subst e1
      subst e2
      exact ⟨ex, hM.a, hM.o, hM.t, Nat.le_trans (Nat.add_le_add_left (ex.wl_mono (by omega)) _) hM.p⟩
  · rw [hf] at e; cases e
theorem negs_TkO {last : Nat} : ∀ T : List Tok, TkO last T → TkO last (negs T).2 ∧ plT last T + (negs T).1.length ≤ plT last (negs T).2 := by
  intro T
  induction T with
  | nil => intro _; exact ⟨trivial, Nat.le_refl _⟩
  | cons t T ih =>
    intro h
    rw [negs]
    split
    · rename_i hx
      have h1 := ih h.2.2
      have h2 := h.2.1
      rw [hx] at h2
      refine ⟨h1.1, ?_⟩
      have h3 := h1.2
      show t.at_ + ((negs T).1.length + 1) ≤ plT last (negs T).2
      simp only [List.length_cons, List.length_nil] at h2
      omega
    · exact ⟨h, Nat.le_refl _⟩
theorem negUp_snd {nm : List (List Nat)} {st0 : PS} (hl : st0.H.length = st0.N.length) : ∀ (ps : List Nat) (a : Nat) (st : PS) (v : Nat) (st' : PS) (e : Ex), negUp ps a st = .ok v st' → Ads st0 st a e → OkX nm e → ∃ e', Ads st0 st' v e' ∧ OkX nm e' ∧ st'.T = st.T ∧ e'.wl 3 ≤ ps.length + e.wl 3 := by
  intro ps
  induction ps with
  | nil =>
    intro a st v st' e he ha ho
    rw [negUp] at he
    injection he with e1 e2
    subst e1
    subst e2
    exact ⟨e, ha, ho, rfl, by simp⟩
  | cons p ps ih =>
    intro a st v st' e he ha ho
    rw [negUp] at he
    split at he
    · cases he
    · rename_i c st1 hc
      have hm := addP_max hc
      obtain ⟨hv, rfl⟩ := addP_ok hc
      rw [ha.high hl] at hm he
      have h1 : Ads st0 { st with N := st.N ++ [⟨5, [], a, 0, 0⟩], H := st.H ++ [1 + e.high] } c (.neg e) := by
        refine ⟨?_, ?_, ha.L, ?_, ?_, hm.2⟩
        · show st.N ++ _ = _
          have : a = st0.N.length + e.size - 1 := by have := ha.v; omega
          rw [ha.N, List.append_assoc, this]; rfl
        · show st.H ++ _ = _
          rw [ha.H, List.append_assoc]; rfl
        · show c + 1 = st0.N.length + (e.size + 1)
          have := ha.nl
          omega
        · show (st.N ++ _).length ≤ 4096
          rw [List.length_append, List.length_singleton]; omega
      obtain ⟨e', h2, h3, h4, h5⟩ := ih _ _ _ _ (.neg e) he h1 ho
      refine ⟨e', h2, h3, h4, Nat.le_trans h5 ?_⟩
      have : (Ex.neg e).wl 3 = 1 + e.wl 3 := by
        unfold Ex.wl
        rw [if_neg (show ¬ (Ex.neg e).lvl < 3 from Nat.lt_irrefl 3)]
        rfl
      rw [this, List.length_cons]; omega
theorem minusP_snd {last : Nat} {wrong : Bool} {inner : Option PF} (h : ∀ f, inner = some f → Snd last 1 f) : Snd last 3 (minusP last wrong inner) := by
  intro st v st' e ht hl
  unfold minusP at e
  rcases hf : powerP last wrong inner { st with T := (negs st.T).2 } with _ | (⟨a, st1⟩ | ⟨x, y⟩)
  · rw [hf] at e; cases e
  · rw [hf] at e
    have hn := negs_TkO st.T ht
    obtain ⟨ex, hM⟩ := powerP_snd h { st with T := (negs st.T).2 } a st1 hf hn.1 hl
    have e : some (negUp (negs st.T).1.reverse a st1) = some (.ok v st') := e
    have hA : Ads st st1 a ex := ⟨hM.a.N, hM.a.H, hM.a.L, hM.a.v, hM.a.m, hM.a.hi⟩
    obtain ⟨e', h1, h2, h3, h4⟩ := negUp_snd (nm := st.names) hl _ _ _ _ _ ex (Option.some.inj e) hA hM.o
    refine ⟨e', h1, h2, by rw [h3]; exact hM.t, ?_⟩
    have h5 := hM.p
    have h6 := hn.2
    rw [List.length_reverse] at h4
    have h7 := ex.wl_mono (l := 3) (m := 4) (by omega)
    rw [pl_eq] at h5 ⊢
    rw [pl_eq] at h5 ⊢
    rw [h3]
    have h8 : plT last (negs st.T).2 + ex.wl 4 ≤ plT last st1.T := h5
    omega
  · rw [hf] at e; cases e
/-- The signs of a row. -/
def SgOk (l : Nat) (sg : List Nat → Option Nat) : Prop := ∀ t k, sg t = some k → t.length = 1 ∧ (6 ≤ k ∧ k ≤ 9) ∧ (if k = 6 ∨ k = 7 then 1 else 2) = l
theorem mulS_ok : SgOk 2 mulS := by
  intro t k h
  unfold mulS at h
  split at h
  · rename_i ht
    injection h with h
    subst h
    rw [ht]
    exact ⟨rfl, by omega, rfl⟩
  · split at h
    · rename_i ht
      injection h with h
      subst h
      rw [ht]
      exact ⟨rfl, by omega, rfl⟩
    · cases h
theorem addS_ok : SgOk 1 addS := by
  intro t k h
  unfold addS at h
  split at h
  · rename_i ht
    injection h with h
    subst h
    rw [ht]
    exact ⟨rfl, by omega, rfl⟩
  · split at h
    · rename_i ht
      injection h with h
      subst h
      rw [ht]
      exact ⟨rfl, by omega, rfl⟩
    · cases h
theorem Ex.wl_bin {k l : Nat} {x y : Ex} (hk : (if k = 6 ∨ k = 7 then 1 else 2) = l) : (Ex.bin k x y).wl l = x.wl l + 1 + y.wl (l + 1) := by
  have e : (if k = 6 ∨ k = 7 then 2 else 3) = l + 1 := by rw [← hk]; split <;> rfl
  unfold Ex.wl
  rw [if_neg (show ¬ (Ex.bin k x y).lvl < l by show ¬ (if k = 6 ∨ k = 7 then 1 else 2) < l; omega)]
  show (x.wt + if x.lvl < (if k = 6 ∨ k = 7 then 1 else 2) then 2 else 0) + 1 + (y.wt + if y.lvl < (if k = 6 ∨ k = 7 then 2 else 3) then 2 else 0) + 0 = _
  rw [hk, e]; rfl
theorem rowL_snd {last l : Nat} {sg : List Nat → Option Nat} (hsg : SgOk l sg) {part : PF} (hp : Snd last (l + 1) part) {st0 : PS} (hl : st0.H.length = st0.N.length) : ∀ (n a : Nat) (st : PS) (v : Nat) (st' : PS) (e : Ex), rowL last sg part n a st = some (.ok v st') → Mk last l st0 st a e → ∃ e', Mk last l st0 st' v e' := by
  intro n
  induction n with
  | zero => intro a st v st' e he; cases he
  | succ n ih =>
    intro a st v st' e he hM
    rw [rowL] at he
    rcases hs : sg st.tx with _ | k
    · rw [hs] at he
      injection he with he
      injection he with e1 e2
      subst e1
      subst e2
      exact ⟨e, hM⟩
    · rw [hs] at he
      simp only at he
      obtain ⟨hs1, hs2, hs3⟩ := hsg _ _ hs
      have hon := hM.t.on
      rw [hs1] at hon
      rcases hf : part st.on with _ | (⟨b, st1⟩ | ⟨x, y⟩)
      · rw [hf] at he; cases he
      · rw [hf] at he
        simp only at he
        obtain ⟨f, hF⟩ := hp st.on b st1 hf hon.1 (hM.a.hl hl)
        have hF' : Ads st st1 b f := ⟨hF.a.N, hF.a.H, hF.a.L, hF.a.v, hF.a.m, hF.a.hi⟩
        have hlst := hM.a.hl hl
        rcases hc : addP ⟨k, [], a, b, 0⟩ (1 + max (st1.hi a) (st1.hi b)) (st.pl last) st1 with ⟨c, st2⟩ | ⟨x, y⟩
        · rw [hc] at he
          have hm := addP_max hc
          obtain ⟨hv, rfl⟩ := addP_ok hc
          rw [hM.a.high2 hl hF', hF'.high hlst] at hm he
          refine ih c _ v st' (.bin k e f) he ⟨⟨?_, ?_, ?_, ?_, ?_, hm.2⟩, ⟨hs2, hM.o, ?_⟩, hF.t, ?_⟩
          · show st1.N ++ _ = _
            have ea : a = st0.N.length + e.size - 1 := by have := hM.a.v; omega
            have eb : b = st0.N.length + e.size + f.size - 1 := by have := hF'.v; have := hM.a.nl; omega
            rw [hF'.N, hM.a.nl, hM.a.N, ea, eb, List.append_assoc, List.append_assoc]
            show st0.N ++ (e.flat st0.N.length ++ (f.flat (st0.N.length + e.size) ++ _)) = st0.N ++ (e.flat _ ++ f.flat _ ++ _)
            rw [List.append_assoc]
          · show st1.H ++ _ = _
            rw [hF'.H, hM.a.H, List.append_assoc, List.append_assoc]
            show st0.H ++ (e.hts ++ (f.hts ++ _)) = st0.H ++ (e.hts ++ f.hts ++ _)
            rw [List.append_assoc]
          · show st1.L = st0.L
            rw [hF'.L, hM.a.L]
          · show c + 1 = st0.N.length + (e.size + f.size + 1)
            have := hM.a.nl
            have := hF'.nl
            omega
          · show (st1.N ++ _).length ≤ 4096
            rw [List.length_append, List.length_singleton]; omega
          · have : st.names = st0.names := by unfold PS.names; rw [hM.a.L]
            rw [← this]; exact hF.o
          · rw [Ex.wl_bin hs3]
            have h1 := hM.p
            have h2 := hF.p
            have h3 := hon.2
            show _ ≤ st1.pl last
            omega
        · rw [hc] at he; cases he
      · rw [hf] at he; cases he
theorem rowP_snd {last l : Nat} {sg : List Nat → Option Nat} (hsg : SgOk l sg) {part : PF} (hp : Snd last (l + 1) part) : Snd last l (rowP last sg part) := by
  intro st v st' e ht hl
  unfold rowP at e
  rcases hf : part st with _ | (⟨a, st1⟩ | ⟨x, y⟩)
  · rw [hf] at e; cases e
  · rw [hf] at e
    have e : rowL last sg part (st1.T.length + 1) a st1 = some (.ok v st') := e
    obtain ⟨f, hF⟩ := hp st a st1 hf ht hl
    exact rowL_snd hsg hp hl _ _ _ _ _ f e ⟨hF.a, hF.o, hF.t, Nat.le_trans (Nat.add_le_add_left (f.wl_mono (by omega)) _) hF.p⟩
  · rw [hf] at e; cases e
theorem sumOf_snd {last : Nat} {wrong : Bool} {inner : Option PF} (h : ∀ f, inner = some f → Snd last 1 f) : Snd last 1 (sumOf last wrong inner) := rowP_snd addS_ok (rowP_snd mulS_ok (minusP_snd h))
theorem sumP_snd {last : Nat} {wrong : Bool} : ∀ d, Snd last 1 (sumP last wrong d)
  | 0 => sumOf_snd fun f e => by cases e
  | d + 1 => sumOf_snd fun f e => by
    injection e with e
    rw [← e]
    exact sumP_snd d
/-! A whole text: lets, and the map. -/
def flatD : List (List Nat × Ex) → Nat → List Nod
  | [], _ => []
  | (_, e) :: D, b => e.flat b ++ flatD D (b + e.size)
def sizeD : List (List Nat × Ex) → Nat
  | [] => 0
  | (_, e) :: D => e.size + sizeD D
def letsD : List (List Nat × Ex) → Nat → List (List Nat × Nat)
  | [], _ => []
  | (n, e) :: D, b => (n, b + e.size - 1) :: letsD D (b + e.size)
def OkD (nm : List (List Nat)) (x : Ex) : List (List Nat × Ex) → Prop
  | [] => OkX nm x ∧ x.high ≤ 64
  | (n, e) :: D => (isName n = true ∧ VT n ∧ n ∉ nm ∧ OkX nm e ∧ e.high ≤ 64) ∧ OkD (nm ++ [n]) x D
def wtD (x : Ex) : List (List Nat × Ex) → Nat
  | [] => x.wl 1
  | (n, e) :: D => 6 + n.length + e.wl 1 + wtD x D
theorem flatD_len : ∀ (D : List (List Nat × Ex)) (b : Nat), (flatD D b).length = sizeD D
  | [], _ => rfl
  | (n, e) :: D, b => by rw [flatD, List.length_append, Ex.flat_len, flatD_len D, sizeD]
/-- What a whole text gives. -/
structure MkT (last : Nat) (wrong : Bool) (st st' : PS) (m : Nat) (D : List (List Nat × Ex)) (x : Ex) : Prop where
  N : st'.N = st.N ++ (flatD D st.N.length ++ x.flat (st.N.length + sizeD D))
  L : st'.L = st.L ++ letsD D st.N.length
  m : m + 1 = st.N.length + sizeD D + x.size
  ok : OkD st.names x D
  w : st.pl last + wtD x D ≤ last
  r : wrong = false
  z : st'.N.length ≤ 4096
theorem textP_snd {last : Nat} {wrong : Bool} {sum : PF} (hs : Snd last 1 sum) : ∀ (n : Nat) (st : PS) (m : Nat) (st' : PS), textP last wrong sum n st = some (.ok m st') → TkO last st.T → st.H.length = st.N.length → ∃ D x, MkT last wrong st st' m D x := by
  intro n
  induction n with
  | zero => intro st m st' e; cases e
  | succ n ih =>
    intro st m st' e ht hl
    rw [textP] at e
    split at e
    · rename_i hx
      rcases hL : letP last wrong sum st with _ | (⟨u, st1⟩ | ⟨x, y⟩)
      · rw [hL] at e; cases e
      · rw [hL] at e
        have e : textP last wrong sum n st1 = some (.ok m st') := e
        unfold letP at hL
        split at hL
        · rename_i hnm
          split at hL
          · cases hL
          · rename_i hin
            rcases hk : takeP last wrong [61] st.on.on with ⟨u1, st2⟩ | ⟨x, y⟩
            · rw [hk] at hL
              simp only at hL
              obtain ⟨hx2, rfl⟩ := takeP_ok hk
              rcases hf : sum st.on.on.on with _ | (⟨a, st3⟩ | ⟨x, y⟩)
              · rw [hf] at hL; cases hL
              · rw [hf] at hL
                simp only at hL
                rcases hk2 : takeP last wrong [59] st3 with ⟨u2, st4⟩ | ⟨x, y⟩
                · rw [hk2] at hL
                  injection hL with hL
                  injection hL with _ hL
                  obtain ⟨hx3, rfl⟩ := takeP_ok hk2
                  have g0 := ht.on_gap hx hnm
                  have g1 := ht.on
                  have g2 := g1.1.on
                  have g3 := g2.1.on
                  obtain ⟨f, hF⟩ := hs _ a st3 hf g3.1 hl
                  have g4 := hF.t.on
                  have hA : Ads st st3 a f := ⟨hF.a.N, hF.a.H, hF.a.L, hF.a.v, hF.a.m, hF.a.hi⟩
                  have h0 : st.on.tx ≠ [] := fun e => by rw [e] at hnm; cases hnm
                  subst hL
                  obtain ⟨D, x, hD⟩ := ih _ m st' e g4.1 (hA.hl hl)
                  have hNl : st3.N.length = st.N.length + f.size := hA.nl
                  refine ⟨(st.on.tx, f) :: D, x, ?_, ?_, ?_, ⟨⟨hnm, g1.1.tx h0, hin, hF.o, hA.hi⟩, ?_⟩, ?_, hD.r, hD.z⟩
                  · rw [hD.N]
                    show st3.N ++ (flatD D st3.N.length ++ x.flat (st3.N.length + sizeD D)) = _
                    rw [hNl, hA.N, flatD, sizeD, List.append_assoc, List.append_assoc, Nat.add_assoc]
                  · rw [hD.L]
                    show st3.L ++ [(st.on.tx, a)] ++ letsD D st3.N.length = _
                    have : a = st.N.length + f.size - 1 := by have := hA.v; omega
                    rw [hNl, hA.L, letsD, List.append_assoc, this]; rfl
                  · have := hD.m
                    have e2 : m + 1 = st3.N.length + sizeD D + x.size := this
                    rw [e2, hNl, sizeD]; omega
                  · have e2 := hD.ok
                    have e3 : (PS.names { st3.on with L := st3.on.L ++ [(st.on.tx, a)] }) = st.names ++ [st.on.tx] := by
                      unfold PS.names
                      show (st3.L ++ [(st.on.tx, a)]).map (fun (p : List Nat × Nat) => p.1) = _
                      rw [hA.L, List.map_append]; rfl
                    rw [e3] at e2
                    exact e2
                  · have w1 := hD.w
                    have w2 : st3.on.pl last + wtD x D ≤ last := w1
                    have w3 := hF.p
                    have w4 := g4.2
                    have w5 := g2.2
                    have w6 := g3.2
                    rw [hx3] at w4
                    rw [hx2] at w6
                    simp only [List.length_cons, List.length_nil] at w4 w6
                    rw [wtD]
                    omega
                · rw [hk2] at hL; cases hL
              · rw [hf] at hL; cases hL
            · rw [hk] at hL; cases hL
        · exact (unwP_ok (Option.some.inj hL)).elim
      · rw [hL] at e; cases e
    · unfold mapP at e
      rcases hf : sum st with _ | (⟨a, st1⟩ | ⟨x, y⟩)
      · rw [hf] at e; cases e
      · rw [hf] at e
        simp only at e
        obtain ⟨f, hF⟩ := hs st a st1 hf ht hl
        split at e
        · rename_i hT
          injection e with e
          injection e with e1 e2
          subst e1
          subst e2
          refine ⟨[], f, ?_, ?_, ?_, ⟨hF.o, hF.a.hi⟩, ?_, hT.2, hF.a.m⟩
          · rw [hF.a.N]; rfl
          · rw [hF.a.L]; exact (List.append_nil _).symm
          · have := hF.a.v
            show a + 1 = st.N.length + 0 + f.size
            omega
          · have h1 := hF.p
            have h2 : st1.pl last = last := by rw [pl_eq, hT.1]; rfl
            rw [h2] at h1
            exact h1
        · exact (unwP_ok (Option.some.inj e)).elim
      · rw [hf] at e; cases e
end Go.Proofs.YtnaadajcehfmiaaGreatDoor
