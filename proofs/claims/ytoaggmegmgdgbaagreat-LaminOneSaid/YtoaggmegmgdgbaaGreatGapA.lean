import Derived.Test.YtoaggmegmgdgbaaGreatOnceJ
import Derived.Test.YtoaggmegmgdgbaaGreatLamK
import Derived.Test.YtoaggmegmgdgbaaGreatSep
import Derived.Maps.Views
import Derived.Maps.OwnSet
import Derived.Maps.OwnOps
namespace Go.Proofs.YtoaggmegmgdgbaaGreat
open Go.RowKit Go.Sort Go.Maps
def endsL (L : List Lf) : List PT := L.flatMap fun l => [l.1, l.2]
theorem endsL_len (L : List Lf) : (endsL L).length = 2 * L.length := by
  induction L with
  | nil => rfl
  | cons a r ih =>
    have : endsL (a :: r) = a.1 :: a.2 :: endsL r := rfl
    rw [this, List.length_cons, List.length_cons, ih, List.length_cons]
    omega
theorem endsL_ang {L : List Lf} (h : ∀ m, m ∈ L → AngL m) : ∀ p, p ∈ endsL L → Ang p := fun p hp => by
  obtain ⟨l, hl, hp⟩ := List.mem_flatMap.1 hp
  simp only [List.mem_cons, List.not_mem_nil, or_false] at hp
  rcases hp with rfl | rfl
  · exact (h l hl).1
  · exact (h l hl).2
theorem endsL_snoc (L : List Lf) (l : Lf) : endsL (L ++ [l]) = endsL L ++ [l.1, l.2] := by simp [endsL]
theorem insR_len (out : List PT) (x : PT) : (insR out x).length ≤ out.length + 1 := by
  unfold insR
  have := posR_le out x out.length
  split
  · omega
  · rw [List.length_append, List.length_cons, List.length_take, List.length_drop]; omega
theorem riseL_len (l : List PT) : (riseL l).length ≤ l.length := by
  have h : ∀ (l out : List PT), (l.foldl insR out).length ≤ out.length + l.length := by
    intro l
    induction l with
    | nil => intro out; simp
    | cons a r ih =>
      intro out
      rw [List.foldl_cons, List.length_cons]
      have h1 := ih (insR out a)
      have h2 := insR_len out a
      omega
  have := h l []
  rw [List.length_nil, Nat.zero_add] at this
  exact this
def popG (L : List Lf) (f : PT) : List Nat → List Nat
  | [] => []
  | t :: r => if (L[t]!).2 = f then popG L f r else t :: r
theorem popG_suffix (L : List Lf) (f : PT) : ∀ P, popG L f P <:+ P
  | [] => List.suffix_refl _
  | t :: r => by
    rw [popG]
    split
    · exact (popG_suffix L f r).trans (List.suffix_cons ..)
    · exact List.suffix_refl _
def runG (L : List Lf) (f : PT) (next : Nat) : Nat := ((L.drop next).takeWhile (fun l => decide (l.1 = f))).length
theorem runG_le (L : List Lf) (f : PT) (next : Nat) : next + runG L f next ≤ max next L.length := by
  have := (List.takeWhile_prefix (fun l : Lf => decide (l.1 = f)) (l := L.drop next)).length_le
  rw [List.length_drop] at this
  unfold runG
  omega
theorem runG_hit {L : List Lf} {f : PT} {next j : Nat} (h : j < runG L f next) : next + j < L.length ∧ (L[next + j]!).1 = f := by
  have hp := List.takeWhile_prefix (fun l : Lf => decide (l.1 = f)) (l := L.drop next)
  have hl := hp.length_le
  rw [List.length_drop] at hl
  have hlt : next + j < L.length := by unfold runG at h; omega
  refine ⟨hlt, ?_⟩
  have h1 : ((L.drop next).takeWhile (fun l => decide (l.1 = f)))[j]'h ∈ (L.drop next).takeWhile (fun l => decide (l.1 = f)) := List.getElem_mem _
  have h2 := List.all_eq_true.1 (List.all_takeWhile (p := fun l : Lf => decide (l.1 = f)) (l := L.drop next)) _ h1
  have h3 : ((L.drop next).takeWhile (fun l => decide (l.1 = f)))[j]'h = (L.drop next)[j]'(by rw [List.length_drop]; omega) := hp.getElem h
  rw [h3, List.getElem_drop] at h2
  rw [getElem!_pos L (next + j) hlt]
  exact of_decide_eq_true h2
theorem takeWhile_stop {α : Type} (p : α → Bool) : ∀ (l : List α) (h : (l.takeWhile p).length < l.length), p (l[(l.takeWhile p).length]) = false
  | [], h => by simp at h
  | a :: r, h => by
    by_cases ha : p a
    · have e : (a :: r).takeWhile p = a :: r.takeWhile p := by simp [List.takeWhile_cons, ha]
      have h2 : (r.takeWhile p).length < r.length := by rw [e] at h; simpa using h
      have := takeWhile_stop p r h2
      simp only [e, List.length_cons, List.getElem_cons_succ]
      exact this
    · have e : (a :: r).takeWhile p = [] := by simp [List.takeWhile_cons, ha]
      simp only [e, List.length_nil, List.getElem_cons_zero]
      simpa using ha
theorem runG_stop {L : List Lf} {f : PT} {next : Nat} (h : next + runG L f next < L.length) : (L[next + runG L f next]!).1 ≠ f := by
  have h2 := takeWhile_stop (fun l : Lf => decide (l.1 = f)) (L.drop next) (by rw [List.length_drop]; unfold runG at h; omega)
  rw [List.getElem_drop] at h2
  rw [getElem!_pos L _ h]
  exact of_decide_eq_false h2
structure GSt where
  pile : List Nat
  next : Nat
  keys : List Int
  out : List (List (PT × PT))
def topG : List Nat → Int
  | [] => -1
  | t :: _ => (t : Int)
def idxG (ks : List Int) (k : Int) : Nat := ks.idxOf k
def keysG (ks : List Int) (k : Int) : List Int := if k ∈ ks then ks else ks ++ [k]
def outG (ks : List Int) (k : Int) (out : List (List (PT × PT))) : List (List (PT × PT)) := if k ∈ ks then out else out ++ [[]]
def stepG2 (L : List Lf) (E : List PT) (s : GSt) (k : Nat) : GSt :=
  let f := E[k]!
  let c := runG L f s.next
  let pile := (List.range' s.next c) ++ popG L f s.pile
  let t := topG pile
  { pile, next := s.next + c, keys := keysG s.keys t, out := (outG s.keys t s.out).modify (idxG (keysG s.keys t) t) (· ++ [(f, E[(k + 1) % E.length]!)]) }
def gapSt (L : List Lf) (k : Nat) : GSt := (List.range k).foldl (stepG2 L (riseL (endsL L))) ⟨[], 0, [], []⟩
def gapsL (L : List Lf) : List (List (PT × PT)) := if L = [] then [[((0, 1), (0, 1))]] else (gapSt L (riseL (endsL L)).length).out
theorem gapSt_succ (L : List Lf) (k : Nat) : gapSt L (k + 1) = stepG2 L (riseL (endsL L)) (gapSt L k) k := by
  unfold gapSt
  rw [List.range_succ, List.foldl_append]
  rfl
theorem idxG_lt {ks : List Int} {k : Int} : idxG (keysG ks k) k < (keysG ks k).length := by
  refine List.idxOf_lt_length_of_mem ?_
  unfold keysG
  split
  · assumption
  · simp
theorem keysG_len {ks : List Int} {k : Int} {out : List (List (PT × PT))} (h : ks.length = out.length) : (keysG ks k).length = (outG ks k out).length := by
  unfold keysG outG
  split
  · exact h
  · rw [List.length_append, List.length_append, h]; rfl
structure GInv (L : List Lf) (k : Nat) (s : GSt) : Prop where
  next : s.next ≤ L.length
  pile : ∀ t, t ∈ s.pile → t < s.next
  plen : s.pile.length ≤ s.next
  klen : s.keys.length = s.out.length
  olen : s.out.length ≤ k
  ilen : ∀ x, x ∈ s.out → x.length ≤ k
  nodup : s.keys.Nodup
theorem GInv.start (L : List Lf) : GInv L 0 ⟨[], 0, [], []⟩ := ⟨Nat.zero_le _, fun _ h => by simp at h, Nat.le_refl _, rfl, Nat.le_refl _, fun _ h => by simp at h, List.nodup_nil⟩
theorem GInv.step {L : List Lf} {E : List PT} {k : Nat} {s : GSt} (h : GInv L k s) : GInv L (k + 1) (stepG2 L E s k) := by
  have hr := runG_le L E[k]! s.next
  have hn := h.next
  have hsuf := popG_suffix L E[k]! s.pile
  obtain ⟨t, ht⟩ : ∃ t, t = topG ((List.range' s.next (runG L E[k]! s.next)) ++ popG L E[k]! s.pile) := ⟨_, rfl⟩
  refine ⟨?_, ?_, ?_, ?_, ?_, ?_, ?_⟩
  · show s.next + _ ≤ _
    omega
  · intro t ht
    show t < s.next + _
    rcases List.mem_append.1 ht with h1 | h1
    · rw [List.mem_range'_1] at h1
      exact h1.2
    · have := h.pile t (hsuf.subset h1)
      omega
  · show (_ ++ _ : List Nat).length ≤ s.next + _
    rw [List.length_append, List.length_range']
    have := hsuf.length_le
    have := h.plen
    omega
  · show (keysG s.keys _).length = (List.modify _ _ _).length
    rw [List.length_modify, ← ht]
    unfold keysG outG
    split
    · exact h.klen
    · rw [List.length_append, List.length_append, h.klen]; rfl
  · show (List.modify _ _ _).length ≤ k + 1
    rw [List.length_modify, ← ht]
    have := h.olen
    unfold outG
    split
    · omega
    · rw [List.length_append]; simp; omega
  · intro x hx
    have hx : x ∈ (outG s.keys t s.out).modify (idxG (keysG s.keys t) t) (· ++ [(E[k]!, E[(k + 1) % E.length]!)]) := by rw [ht]; exact hx
    have h0 : ∀ y, y ∈ outG s.keys t s.out → y.length ≤ k := fun y hy => by
      unfold outG at hy
      split at hy
      · exact h.ilen y hy
      · rcases List.mem_append.1 hy with hy | hy
        · exact h.ilen y hy
        · rw [List.mem_singleton.1 hy]; exact Nat.zero_le _
    obtain ⟨i, hi, e⟩ := List.mem_iff_getElem.1 hx
    rw [List.getElem_modify] at e
    rw [List.length_modify] at hi
    split at e
    · rw [← e, List.length_append]
      have := h0 _ (List.getElem_mem hi)
      simp; omega
    · rw [← e]
      have := h0 _ (List.getElem_mem hi)
      omega
  · show (keysG s.keys _).Nodup
    rw [← ht]
    unfold keysG
    split
    · exact h.nodup
    · rename_i hm
      rw [List.nodup_append]
      refine ⟨h.nodup, by simp, fun a ha b hb => ?_⟩
      rw [List.mem_singleton] at hb
      subst hb
      exact fun e => hm (e ▸ ha)
theorem gapSt_inv (L : List Lf) : ∀ k, GInv L k (gapSt L k)
  | 0 => GInv.start L
  | k + 1 => by rw [gapSt_succ]; exact (gapSt_inv L k).step
open Go.RowKit Go.Sort Go.Maps
def keyI (k : Int) : Lit := .int .i64 k
def mapR : List Int → DataW Unit
  | [] => .map []
  | k :: r => (mapR r).put (keyI k) (.lit (.int .i64 (r.length : Int)))
def mapD (ks : List Int) : DataW Unit := mapR ks.reverse
theorem mapD_snoc (ks : List Int) (k : Int) : mapD (ks ++ [k]) = (mapD ks).put (keyI k) (.lit (.int .i64 (ks.length : Int))) := by
  unfold mapD
  rw [List.reverse_append]
  simp [mapR]
theorem isKey_int (k : Int) : WideAt.IsKeyLit (keyI k) := by simp [keyI, WideAt.IsKeyLit]
theorem mapR_isMap : ∀ r, IsMap (mapR r)
  | [] => isMap_empty
  | k :: r => (mapR_isMap r).put _ _
theorem keyI_ne {a b : Int} (h : a ≠ b) : keyI a ≠ keyI b := fun e => h (by injection e)
theorem has_mapR (k : Int) : ∀ r, Maps.has (mapR r) (keyI k) = decide (k ∈ r)
  | [] => rfl
  | a :: r => by
    rw [mapR]
    by_cases e : k = a
    · subst e
      rw [has_put_same (mapR_isMap r) (isKey_int k)]
      simp
    · rw [has_put_other (keyI_ne e), has_mapR k r]
      simp [e]
theorem has_mapD (ks : List Int) (k : Int) : Maps.has (mapD ks) (keyI k) = decide (k ∈ ks) := by
  unfold mapD
  rw [has_mapR]
  simp
theorem atKey_mapR (k : Int) (z : DataW Unit) : ∀ (r : List Int) (i : Nat), r.Nodup → r.reverse[i]? = some k → (mapR r).atKey (keyI k) z = .lit (.int .i64 (i : Int))
  | [], i, _, h => by simp at h
  | a :: r, i, hn, h => by
    rw [List.reverse_cons] at h
    obtain ⟨h1, h2⟩ := List.nodup_cons.1 hn
    rw [mapR]
    by_cases hi : i < r.length
    · rw [List.getElem?_append_left (by simpa using hi)] at h
      have hm : k ∈ r := List.mem_reverse.1 (List.mem_of_getElem? h)
      rw [atKey_put_other (keyI_ne (fun e : k = a => h1 (by rw [← e]; exact hm)))]
      exact atKey_mapR k z r i h2 h
    · have hlt : i < (r.reverse ++ [a]).length := by
        rcases Nat.lt_or_ge i (r.reverse ++ [a]).length with h3 | h3
        · exact h3
        · rw [List.getElem?_eq_none h3] at h; cases h
      have e : i = r.length := by simp at hlt; omega
      subst e
      rw [List.getElem?_append_right (by simp)] at h
      simp at h
      subst h
      exact atKey_put_same (mapR_isMap r) (isKey_int _) _ _
theorem atKey_mapD {ks : List Int} {k : Int} (hn : ks.Nodup) (hk : k ∈ ks) (z : DataW Unit) : (mapD ks).atKey (keyI k) z = .lit (.int .i64 (idxG ks k : Int)) := by
  refine atKey_mapR k z ks.reverse _ (List.pairwise_reverse.2 (hn.imp fun h => h.symm)) ?_
  rw [List.reverse_reverse]
  unfold idxG
  rw [List.getElem?_eq_getElem (List.idxOf_lt_length_of_mem hk)]
  exact congrArg some (List.getElem_idxOf _)
theorem idxG_new {ks : List Int} {k : Int} (hk : k ∉ ks) : idxG (ks ++ [k]) k = ks.length := by
  unfold idxG
  rw [List.idxOf_append, if_neg hk]
  simp
end Go.Proofs.YtoaggmegmgdgbaaGreat
