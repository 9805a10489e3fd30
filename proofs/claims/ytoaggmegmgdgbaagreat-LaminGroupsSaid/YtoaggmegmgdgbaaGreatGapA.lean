import Derived.Test.YtoaggmegmgdgbaaGreatLamB
import Derived.Maps.Own
import Derived.Maps.AppendAt
import Derived.Test.YtoaggmegmgdgbaaGreatOnceJ
import Derived.Test.YtoaggmegmgdgbaaGreatLamK
import Derived.Maps.Views
import Derived.Maps.OwnSet
import Derived.Maps.OwnOps
namespace Go.Proofs.YtoaggmegmgdgbaaGreat
open Go.RowKit Go.Sort Go.Maps
structure It where
  own : Option Nat
  P : World → Prop
  keep : ∀ {w w' : World} {row : Option Nat}, P w → w.grownBy w' row → (own = none ∨ own ≠ row) → P w'
  lt : ∀ {w : World} {k : Nat}, P w → own = some k → k < w.heap.size
def Far (a b : It) : Prop := ∀ k, a.own = some k → b.own ≠ some k
theorem Far.symm {a b : It} (h : Far a b) : Far b a := fun k hb ha => h k ha hb
def Sep (w : World) (l : List It) : Prop := (∀ a, a ∈ l → a.P w) ∧ l.Pairwise Far
section
variable {w w' : World} {l A B : List It} {a a' : It}
theorem Sep.nil : Sep w [] := ⟨fun _ h => absurd h (by simp), List.Pairwise.nil⟩
theorem Sep.get (h : Sep w l) (ha : a ∈ l) : a.P w := h.1 a ha
theorem Sep.grown (h : Sep w l) (hg : w.grownBy w' none) : Sep w' l := ⟨fun a ha => a.keep (h.1 a ha) hg (by
  rcases ho : a.own with _ | k
  · exact .inl rfl
  · exact .inr (by simp)), h.2⟩
theorem Sep.below (h : Sep w l) (hb : Below w.heap.size w w') : Sep w' l := h.grown ⟨hb.os, hb.tape, hb.output, hb.size, fun j hj _ => hb.block j hj⟩
theorem Sep.alloc (h : Sep w l) (o : Obj) : Sep (w.alloc o) l := h.grown (World.grownBy_alloc w o none)
theorem Sep.drewN (h : Sep w l) (n : Nat) : Sep (w.drewN n) l := h.grown ⟨rfl, rfl, rfl, Nat.le_refl _, fun _ _ _ => rfl⟩
theorem Sep.upd (h : Sep w (A ++ a :: B)) (hg : w.grownBy w' a.own) (hP : a'.P w') (hloc : ∀ k, a'.own = some k → a.own = some k ∨ w.heap.size ≤ k) : Sep w' (A ++ a' :: B) := by
  obtain ⟨h1, h2⟩ := h
  obtain ⟨p1, p2, p3⟩ := List.pairwise_append.1 h2
  obtain ⟨p4, p5⟩ := List.pairwise_cons.1 p2
  have hA : ∀ x, x ∈ A → Far x a := fun x hx => p3 x hx a (List.mem_cons_self ..)
  have hk : ∀ x, x ∈ A ∨ x ∈ B → x.P w' := fun x hx => by
    have hx1 : x.P w := h1 x (by rcases hx with hx | hx <;> simp [hx])
    refine x.keep hx1 hg ?_
    rcases ho : x.own with _ | k
    · exact .inl rfl
    · refine .inr (fun e => ?_)
      rcases hx with hx | hx
      · exact hA x hx k ho e.symm
      · exact p4 x hx k e.symm ho
  have hf : ∀ x, x ∈ A ∨ x ∈ B → Far x a' := fun x hx k h3 h4 => by
    have hlt := x.lt (h1 x (by rcases hx with hx | hx <;> simp [hx])) h3
    rcases hloc k h4 with h5 | h5
    · rcases hx with hx | hx
      · exact hA x hx k h3 h5
      · exact p4 x hx k h5 h3
    · omega
  refine ⟨fun x hx => ?_, List.pairwise_append.2 ⟨p1, List.pairwise_cons.2 ⟨fun x hx => (hf x (.inr hx)).symm, p5⟩, fun x hx y hy => ?_⟩⟩
  · rcases List.mem_append.1 hx with hx | hx
    · exact hk x (.inl hx)
    · rcases List.mem_cons.1 hx with rfl | hx
      · exact hP
      · exact hk x (.inr hx)
  · rcases List.mem_cons.1 hy with rfl | hy
    · exact hf x (.inl hx)
    · exact p3 x hx y (List.mem_cons_of_mem _ hy)
theorem Sep.cons (h : Sep w l) (hP : a.P w) (hf : ∀ x, x ∈ l → Far a x) : Sep w (a :: l) := ⟨fun x hx => by
  rcases List.mem_cons.1 hx with rfl | hx
  · exact hP
  · exact h.1 x hx, List.pairwise_cons.2 ⟨hf, h.2⟩⟩
theorem Sep.snoc (h : Sep w l) (hP : a.P w) (hf : ∀ x, x ∈ l → Far a x) : Sep w (l ++ [a]) := ⟨fun x hx => by
  rcases List.mem_append.1 hx with hx | hx
  · exact h.1 x hx
  · rw [List.mem_singleton.1 hx]; exact hP, List.pairwise_append.2 ⟨h.2, List.pairwise_singleton _ _, fun x hx y hy => by
    rw [List.mem_singleton.1 hy]; exact (hf x hx).symm⟩⟩
theorem Sep.perm {l m : List It} (h : Sep w l) (hp : l.Perm m) : Sep w m := ⟨fun a ha => h.1 a (hp.mem_iff.2 ha), h.2.perm hp Far.symm⟩
theorem Sep.sub {l m : List It} (h : Sep w l) (hs : m.Sublist l) : Sep w m := ⟨fun a ha => h.1 a (hs.subset ha), h.2.sublist hs⟩
theorem Sep.newR {w0 : World} (h : Sep w0 l) (hg : w0.grownBy w none) (hP : a.P w) (hl : ∀ k, a.own = some k → w0.heap.size ≤ k) : Sep w (l ++ [a]) := (h.grown hg).snoc hP (fun x hx k h1 h2 => by
  have := x.lt (h.1 x hx) h2
  have := hl k h1
  omega)
theorem Sep.new {w0 : World} (h : Sep w0 l) (hg : w0.grownBy w none) (hP : a.P w) (hl : ∀ k, a.own = some k → w0.heap.size ≤ k) : Sep w (a :: l) := (h.grown hg).cons hP (fun x hx k h1 h2 => by
  have := x.lt (h.1 x hx) h2
  have := hl k h1
  omega)
end
theorem row_mono {w : World} {B B' : Nat} {e : TypeId} {size : Nat} {v : Value} {n : Nat} {xs : List Value} (h : w.ownsRow B e size v n xs) (hb : B' ≤ B) : w.ownsRow B' e size v n xs := by
  refine ⟨h.1, h.2.imp id ?_⟩
  rintro ⟨g, cap, cur, rfl, h1, rest⟩
  exact ⟨g, cap, cur, rfl, Nat.le_trans hb h1, rest⟩
def itRow (B : Nat) (e : TypeId) (size : Nat) (v : Value) (n : Nat) (xs : List Value) : It where
  own := v.ownBlock
  P w := w.ownsRow B e size v n xs
  keep h hg hne := World.ownsRow.kept h hg hne
  lt h hk := (World.ownsRow.lt h _ hk).2
def itMap {H : Type} (P : Program) (k : TypeId) (R : Value → Option (DataW H × List MemPlace)) (b n : Nat) (D : DataW H) : It where
  own := some b
  P w := w.ownsMap P k R b n D
  keep h hg hne := World.ownsMap.kept h hg (by
    rcases hne with h | h
    · cases h
    · exact h)
  lt h hk := by injection hk with hk; rw [← hk]; exact World.ownsMap.lt h
def itBlk (g : Nat) (T : TypeId) (cs : Array Value) : It where
  own := some g
  P w := Blk w g T cs
  keep h hg hne := Blk.grown h hg (by
    rcases hne with h | h
    · cases h
    · exact h)
  lt h hk := by injection hk with hk; rw [← hk]; exact h.lt
open Go.RowKit Go.Sort Go.Maps
def inIts {α : Type} (B : Nat) (e : TypeId) (size : Nat) (enc : α → List Value) (vs : List Value) (out : List (List α)) : List It := List.zipWith (fun v xs => itRow B e size v xs.length (xs.flatMap enc)) vs out
section
variable {α : Type} {B : Nat} {e oe : TypeId} {size : Nat} {enc : α → List Value} {vs : List Value} {out : List (List α)} {v v' : Value} {w w' : World} {X : List It}
theorem inIts_len (h : vs.length = out.length) : (inIts B e size enc vs out).length = vs.length := by simp [inIts, h]
theorem inIts_get (h : vs.length = out.length) {g : Nat} (hg : g < vs.length) : (inIts B e size enc vs out)[g]'(by rw [inIts_len h]; exact hg) = itRow B e size vs[g] (out[g]'(h ▸ hg)).length ((out[g]'(h ▸ hg)).flatMap enc) := by simp [inIts]
theorem inIts_snoc (h : vs.length = out.length) (u : Value) (x : List α) : inIts B e size enc (vs ++ [u]) (out ++ [x]) = inIts B e size enc vs out ++ [itRow B e size u x.length (x.flatMap enc)] := by
  unfold inIts
  rw [List.zipWith_append h]
  rfl
theorem inIts_set (h : vs.length = out.length) {g : Nat} (hg : g < vs.length) (u : Value) (x : List α) : inIts B e size enc (vs.set g u) (out.set g x) = (inIts B e size enc vs out).take g ++ itRow B e size u x.length (x.flatMap enc) :: (inIts B e size enc vs out).drop (g + 1) := by
  have hl := inIts_len (B := B) (e := e) (size := size) (enc := enc) h
  have h2 : (vs.set g u).length = (out.set g x).length := by simp [h]
  apply List.ext_getElem
  · rw [inIts_len h2, List.length_append, List.length_cons, List.length_take, List.length_drop, hl, List.length_set]; omega
  · intro i h3 h4
    rw [inIts_len h2, List.length_set] at h3
    rw [inIts_get h2 (by rw [List.length_set]; exact h3)]
    rcases Nat.lt_trichotomy i g with hi | hi | hi
    · rw [List.getElem_append_left (by rw [List.length_take, hl]; omega), List.getElem_take, inIts_get h h3]
      simp only [List.getElem_set_ne (show g ≠ i by omega)]
    · subst hi
      rw [List.getElem_append_right (by rw [List.length_take, hl]; omega)]
      have e1 : i - (List.take i (inIts B e size enc vs out)).length = 0 := by rw [List.length_take, hl]; omega
      simp only [e1, List.getElem_cons_zero, List.getElem_set_self]
    · rw [List.getElem_append_right (by rw [List.length_take, hl]; omega)]
      obtain ⟨t, rfl⟩ : ∃ t, i = g + 1 + t := ⟨i - (g + 1), by omega⟩
      have e1 : g + 1 + t - (List.take g (inIts B e size enc vs out)).length = t + 1 := by rw [List.length_take, hl]; omega
      simp only [e1, List.getElem_cons_succ, List.getElem_drop]
      rw [inIts_get h h3]
      simp only [List.getElem_set_ne (show g ≠ g + 1 + t by omega)]
theorem list_split {β : Type} (l : List β) {g : Nat} (hg : g < l.length) : l = l.take g ++ l[g] :: l.drop (g + 1) := by
  rw [List.getElem_cons_drop, List.take_append_drop]
def NestP (w : World) (B : Nat) (oe e : TypeId) (size : Nat) (enc : α → List Value) (X : List It) (v : Value) (vs : List Value) (out : List (List α)) : Prop :=
  vs.length = out.length ∧ Sep w (X ++ itRow B oe 1 v vs.length vs :: inIts B e size enc vs out)
theorem NestP.row (h : NestP w B oe e size enc X v vs out) : w.ownsRow B oe 1 v vs.length vs := h.2.get (a := itRow B oe 1 v vs.length vs) (by simp)
theorem NestP.inner (h : NestP w B oe e size enc X v vs out) {g : Nat} (hg : g < vs.length) : w.ownsRow B e size vs[g] (out[g]'(h.1 ▸ hg)).length ((out[g]'(h.1 ▸ hg)).flatMap enc) := by
  have := h.2.get (a := itRow B e size vs[g] (out[g]'(h.1 ▸ hg)).length ((out[g]'(h.1 ▸ hg)).flatMap enc)) (by
    rw [List.mem_append, List.mem_cons]
    right; right
    rw [← inIts_get h.1 hg]
    exact List.getElem_mem _)
  exact this
theorem NestP.below (h : NestP w B oe e size enc X v vs out) (hb : Below w.heap.size w w') : NestP w' B oe e size enc X v vs out := ⟨h.1, h.2.below hb⟩
theorem NestP.alloc (h : NestP w B oe e size enc X v vs out) (o : Obj) : NestP (w.alloc o) B oe e size enc X v vs out := ⟨h.1, h.2.alloc o⟩
theorem NestP.drewN (h : NestP w B oe e size enc X v vs out) (n : Nat) : NestP (w.drewN n) B oe e size enc X v vs out := ⟨h.1, h.2.drewN n⟩
theorem NestP.addNew {a : It} (h : NestP w B oe e size enc X v vs out) (hg : w.grownBy w' none) (hP : a.P w') (hl : ∀ k, a.own = some k → w.heap.size ≤ k) : NestP w' B oe e size enc (X ++ [a]) v vs out := ⟨h.1, by
  have h2 := h.2.new hg hP hl
  refine h2.perm ?_
  rw [List.append_assoc]
  exact (List.perm_middle (l₁ := X) (a := a)).symm⟩
theorem NestP.drop {a : It} (h : NestP w B oe e size enc (X ++ [a]) v vs out) : NestP w B oe e size enc X v vs out := ⟨h.1, h.2.sub (List.Sublist.append (List.sublist_append_left ..) (List.Sublist.refl _))⟩
theorem NestP.bare (h : NestP w B oe e size enc X v vs out) : NestP w B oe e size enc [] v vs out := ⟨h.1, h.2.sub (List.sublist_append_right X _)⟩
theorem NestP.far {gb n cap : Nat} (h : NestP w B oe e size enc X (.slice (some ⟨gb, 0, none⟩) n cap) vs out) {g : Nat} (hg : g < vs.length) : some gb ≠ vs[g].ownBlock := fun e1 => by
  have h2 := (List.pairwise_append.1 h.2.2).2.1
  have h3 := (List.pairwise_cons.1 h2).1 (itRow B e size vs[g] (out[g]'(h.1 ▸ hg)).length ((out[g]'(h.1 ▸ hg)).flatMap enc)) (by rw [← inIts_get h.1 hg]; exact List.getElem_mem _)
  exact h3 gb rfl e1.symm
theorem NestP.side {A C : List It} {a a' : It} (h : NestP w B oe e size enc (A ++ a :: C) v vs out) (hg : w.grownBy w' a.own) (hP : a'.P w') (hloc : ∀ k, a'.own = some k → a.own = some k ∨ w.heap.size ≤ k) : NestP w' B oe e size enc (A ++ a' :: C) v vs out := by
  obtain ⟨h1, h2⟩ := h
  rw [List.append_assoc, List.cons_append] at h2
  refine ⟨h1, ?_⟩
  rw [List.append_assoc, List.cons_append]
  exact h2.upd hg hP hloc
theorem NestP.push (h : NestP w B oe e size enc X v vs out) (hg : w.grownBy w' v.ownBlock) (hrow : w'.ownsRow B oe 1 v' (vs.length + 1) (vs ++ [.slice none 0 0])) (hloc : v'.ownBlock = v.ownBlock ∨ v'.ownBlock = some w.heap.size) : NestP w' B oe e size enc X v' (vs ++ [.slice none 0 0]) (out ++ [[]]) := by
  obtain ⟨h1, h2⟩ := h
  have h3 := h2.upd (a' := itRow B oe 1 v' (vs ++ [Value.slice none 0 0]).length (vs ++ [.slice none 0 0])) hg (by rw [List.length_append]; exact hrow) (fun k hk => by
    have hk : v'.ownBlock = some k := hk
    show v.ownBlock = some k ∨ _
    rcases hloc with e1 | e1
    · exact .inl (by rw [← e1]; exact hk)
    · right; rw [e1] at hk; injection hk with hk; omega)
  refine ⟨by simp [h1], ?_⟩
  rw [inIts_snoc h1]
  have h4 := h3.snoc (a := itRow B e size (.slice none 0 0) 0 []) (World.ownsRow_nil _ _ _ _) (fun x _ k hk => by cases hk)
  simpa using h4
theorem NestP.set {w2 : World} {gb cap : Nat} {u : Value} {xs' : List α} (h : NestP w B oe e size enc X (.slice (some ⟨gb, 0, none⟩) vs.length cap) vs out) {g : Nat} (hgl : g < vs.length) (hg : w.grownBy w' vs[g].ownBlock) (hrow : w'.ownsRow B e size u xs'.length (xs'.flatMap enc)) (hloc : u.ownBlock = vs[g].ownBlock ∨ ∃ q, u.ownBlock = some q ∧ w.heap.size ≤ q) (hw2 : w2 = w'.setCell ⟨gb, g, none⟩ u) : NestP w2 B oe e size enc X (.slice (some ⟨gb, 0, none⟩) vs.length cap) (vs.set g u) (out.set g xs') := by
  subst hw2
  obtain ⟨h1, h2⟩ := h
  have hl := inIts_len (B := B) (e := e) (size := size) (enc := enc) h1
  have hlt : g < (inIts B e size enc vs out).length := by rw [hl]; exact hgl
  have h3 := h2
  rw [list_split (inIts B e size enc vs out) hlt, inIts_get h1 hgl, show X ++ itRow B oe 1 (.slice (some ⟨gb, 0, none⟩) vs.length cap) vs.length vs :: ((inIts B e size enc vs out).take g ++ itRow B e size vs[g] (out[g]'(h1 ▸ hgl)).length ((out[g]'(h1 ▸ hgl)).flatMap enc) :: (inIts B e size enc vs out).drop (g + 1)) = (X ++ itRow B oe 1 (.slice (some ⟨gb, 0, none⟩) vs.length cap) vs.length vs :: (inIts B e size enc vs out).take g) ++ itRow B e size vs[g] (out[g]'(h1 ▸ hgl)).length ((out[g]'(h1 ▸ hgl)).flatMap enc) :: (inIts B e size enc vs out).drop (g + 1) by simp] at h3
  have h4 := h3.upd (a' := itRow B e size u xs'.length (xs'.flatMap enc)) hg hrow (fun k hk => by
    have hk : u.ownBlock = some k := hk
    show vs[g].ownBlock = some k ∨ _
    rcases hloc with e1 | ⟨q, e1, e2⟩
    · exact .inl (by rw [← e1]; exact hk)
    · right; rw [e1] at hk; injection hk with hk; omega)
  rw [show (X ++ itRow B oe 1 (.slice (some ⟨gb, 0, none⟩) vs.length cap) vs.length vs :: (inIts B e size enc vs out).take g) ++ itRow B e size u xs'.length (xs'.flatMap enc) :: (inIts B e size enc vs out).drop (g + 1) = X ++ itRow B oe 1 (.slice (some ⟨gb, 0, none⟩) vs.length cap) vs.length vs :: ((inIts B e size enc vs out).take g ++ itRow B e size u xs'.length (xs'.flatMap enc) :: (inIts B e size enc vs out).drop (g + 1)) by simp, ← inIts_set h1 hgl] at h4
  have hr : w'.ownsRow B oe 1 (.slice (some ⟨gb, 0, none⟩) vs.length cap) vs.length vs := h4.get (a := itRow B oe 1 (.slice (some ⟨gb, 0, none⟩) vs.length cap) vs.length vs) (by simp)
  obtain ⟨s1, s2⟩ := World.ownsRow.stored hr g u
  refine ⟨by simp [h1], ?_⟩
  rw [List.length_set]
  exact h4.upd (a' := itRow B oe 1 (.slice (some ⟨gb, 0, none⟩) vs.length cap) vs.length (vs.set g u)) s2 s1 (fun k hk => .inl hk)
end
end Go.Proofs.YtoaggmegmgdgbaaGreat
namespace Go.Proofs.YtoaggmegmgdgbaaGreat
open Go.RowKit Go.Sort Go.Maps
def endsL (L : List Lf) : List PT := L.flatMap fun l => [l.1, l.2]
theorem endsL_len (L : List Lf) : (endsL L).length = 2 * L.length := by
  induction L with
  | nil => rfl
  | cons a r ih =>
    have : endsL (a :: r) = a.1 :: a.2 :: endsL r := rfl
    rw [this, List.length_cons, List.length_cons, ih, List.length_cons]
    omega
theorem endsL_ang {L : List Lf} (h : ∀ m, m ∈ L → AngL m) : ∀ p, p ∈ endsL L → Ang p := fun p hp => by
  obtain ⟨l, hl, hp⟩ := List.mem_flatMap.1 hp
  simp only [List.mem_cons, List.not_mem_nil, or_false] at hp
  rcases hp with rfl | rfl
  · exact (h l hl).1
  · exact (h l hl).2
theorem endsL_snoc (L : List Lf) (l : Lf) : endsL (L ++ [l]) = endsL L ++ [l.1, l.2] := by simp [endsL]
theorem insR_len (out : List PT) (x : PT) : (insR out x).length ≤ out.length + 1 := by
  unfold insR
  have := posR_le out x out.length
  split
  · omega
  · rw [List.length_append, List.length_cons, List.length_take, List.length_drop]; omega
theorem riseL_len (l : List PT) : (riseL l).length ≤ l.length := by
  have h : ∀ (l out : List PT), (l.foldl insR out).length ≤ out.length + l.length := by
    intro l
    induction l with
    | nil => intro out; simp
    | cons a r ih =>
      intro out
      rw [List.foldl_cons, List.length_cons]
      have h1 := ih (insR out a)
      have h2 := insR_len out a
      omega
  have := h l []
  rw [List.length_nil, Nat.zero_add] at this
  exact this
def popG (L : List Lf) (f : PT) : List Nat → List Nat
  | [] => []
  | t :: r => if (L[t]!).2 = f then popG L f r else t :: r
theorem popG_suffix (L : List Lf) (f : PT) : ∀ P, popG L f P <:+ P
  | [] => List.suffix_refl _
  | t :: r => by
    rw [popG]
    split
    · exact (popG_suffix L f r).trans (List.suffix_cons ..)
    · exact List.suffix_refl _
def runG (L : List Lf) (f : PT) (next : Nat) : Nat := ((L.drop next).takeWhile (fun l => decide (l.1 = f))).length
theorem runG_le (L : List Lf) (f : PT) (next : Nat) : next + runG L f next ≤ max next L.length := by
  have := (List.takeWhile_prefix (fun l : Lf => decide (l.1 = f)) (l := L.drop next)).length_le
  rw [List.length_drop] at this
  unfold runG
  omega
theorem runG_hit {L : List Lf} {f : PT} {next j : Nat} (h : j < runG L f next) : next + j < L.length ∧ (L[next + j]!).1 = f := by
  have hp := List.takeWhile_prefix (fun l : Lf => decide (l.1 = f)) (l := L.drop next)
  have hl := hp.length_le
  rw [List.length_drop] at hl
  have hlt : next + j < L.length := by unfold runG at h; omega
  refine ⟨hlt, ?_⟩
  have h1 : ((L.drop next).takeWhile (fun l => decide (l.1 = f)))[j]'h ∈ (L.drop next).takeWhile (fun l => decide (l.1 = f)) := List.getElem_mem _
  have h2 := List.all_eq_true.1 (List.all_takeWhile (p := fun l : Lf => decide (l.1 = f)) (l := L.drop next)) _ h1
  have h3 : ((L.drop next).takeWhile (fun l => decide (l.1 = f)))[j]'h = (L.drop next)[j]'(by rw [List.length_drop]; omega) := hp.getElem h
  rw [h3, List.getElem_drop] at h2
  rw [getElem!_pos L (next + j) hlt]
  exact of_decide_eq_true h2
theorem takeWhile_stop {α : Type} (p : α → Bool) : ∀ (l : List α) (h : (l.takeWhile p).length < l.length), p (l[(l.takeWhile p).length]) = false
  | [], h => by simp at h
  | a :: r, h => by
    by_cases ha : p a
    · have e : (a :: r).takeWhile p = a :: r.takeWhile p := by simp [List.takeWhile_cons, ha]
      have h2 : (r.takeWhile p).length < r.length := by rw [e] at h; simpa using h
      have := takeWhile_stop p r h2
      simp only [e, List.length_cons, List.getElem_cons_succ]
      exact this
    · have e : (a :: r).takeWhile p = [] := by simp [List.takeWhile_cons, ha]
      simp only [e, List.length_nil, List.getElem_cons_zero]
      simpa using ha
theorem runG_stop {L : List Lf} {f : PT} {next : Nat} (h : next + runG L f next < L.length) : (L[next + runG L f next]!).1 ≠ f := by
  have h2 := takeWhile_stop (fun l : Lf => decide (l.1 = f)) (L.drop next) (by rw [List.length_drop]; unfold runG at h; omega)
  rw [List.getElem_drop] at h2
  rw [getElem!_pos L _ h]
  exact of_decide_eq_false h2
structure GSt where
  pile : List Nat
  next : Nat
  keys : List Int
  out : List (List (PT × PT))
def topG : List Nat → Int
  | [] => -1
  | t :: _ => (t : Int)
def idxG (ks : List Int) (k : Int) : Nat := ks.idxOf k
def keysG (ks : List Int) (k : Int) : List Int := if k ∈ ks then ks else ks ++ [k]
def outG (ks : List Int) (k : Int) (out : List (List (PT × PT))) : List (List (PT × PT)) := if k ∈ ks then out else out ++ [[]]
def stepG2 (L : List Lf) (E : List PT) (s : GSt) (k : Nat) : GSt :=
  let f := E[k]!
  let c := runG L f s.next
  let pile := (List.range' s.next c) ++ popG L f s.pile
  let t := topG pile
  { pile, next := s.next + c, keys := keysG s.keys t, out := (outG s.keys t s.out).modify (idxG (keysG s.keys t) t) (· ++ [(f, E[(k + 1) % E.length]!)]) }
def gapSt (L : List Lf) (k : Nat) : GSt := (List.range k).foldl (stepG2 L (riseL (endsL L))) ⟨[], 0, [], []⟩
def gapsL (L : List Lf) : List (List (PT × PT)) := if L = [] then [[((0, 1), (0, 1))]] else (gapSt L (riseL (endsL L)).length).out
theorem gapSt_succ (L : List Lf) (k : Nat) : gapSt L (k + 1) = stepG2 L (riseL (endsL L)) (gapSt L k) k := by
  unfold gapSt
  rw [List.range_succ, List.foldl_append]
  rfl
theorem idxG_lt {ks : List Int} {k : Int} : idxG (keysG ks k) k < (keysG ks k).length := by
  refine List.idxOf_lt_length_of_mem ?_
  unfold keysG
  split
  · assumption
  · simp
theorem keysG_len {ks : List Int} {k : Int} {out : List (List (PT × PT))} (h : ks.length = out.length) : (keysG ks k).length = (outG ks k out).length := by
  unfold keysG outG
  split
  · exact h
  · rw [List.length_append, List.length_append, h]; rfl
structure GInv (L : List Lf) (k : Nat) (s : GSt) : Prop where
  next : s.next ≤ L.length
  pile : ∀ t, t ∈ s.pile → t < s.next
  plen : s.pile.length ≤ s.next
  klen : s.keys.length = s.out.length
  olen : s.out.length ≤ k
  ilen : ∀ x, x ∈ s.out → x.length ≤ k
  nodup : s.keys.Nodup
theorem GInv.start (L : List Lf) : GInv L 0 ⟨[], 0, [], []⟩ := ⟨Nat.zero_le _, fun _ h => by simp at h, Nat.le_refl _, rfl, Nat.le_refl _, fun _ h => by simp at h, List.nodup_nil⟩
theorem GInv.step {L : List Lf} {E : List PT} {k : Nat} {s : GSt} (h : GInv L k s) : GInv L (k + 1) (stepG2 L E s k) := by
  have hr := runG_le L E[k]! s.next
  have hn := h.next
  have hsuf := popG_suffix L E[k]! s.pile
  obtain ⟨t, ht⟩ : ∃ t, t = topG ((List.range' s.next (runG L E[k]! s.next)) ++ popG L E[k]! s.pile) := ⟨_, rfl⟩
  refine ⟨?_, ?_, ?_, ?_, ?_, ?_, ?_⟩
  · show s.next + _ ≤ _
    omega
  · intro t ht
    show t < s.next + _
    rcases List.mem_append.1 ht with h1 | h1
    · rw [List.mem_range'_1] at h1
      exact h1.2
    · have := h.pile t (hsuf.subset h1)
      omega
  · show (_ ++ _ : List Nat).length ≤ s.next + _
    rw [List.length_append, List.length_range']
    have := hsuf.length_le
    have := h.plen
    omega
  · show (keysG s.keys _).length = (List.modify _ _ _).length
    rw [List.length_modify, ← ht]
    unfold keysG outG
    split
    · exact h.klen
    · rw [List.length_append, List.length_append, h.klen]; rfl
  · show (List.modify _ _ _).length ≤ k + 1
    rw [List.length_modify, ← ht]
    have := h.olen
    unfold outG
    split
    · omega
    · rw [List.length_append]; simp; omega
  · intro x hx
    have hx : x ∈ (outG s.keys t s.out).modify (idxG (keysG s.keys t) t) (· ++ [(E[k]!, E[(k + 1) % E.length]!)]) := by rw [ht]; exact hx
    have h0 : ∀ y, y ∈ outG s.keys t s.out → y.length ≤ k := fun y hy => by
      unfold outG at hy
      split at hy
      · exact h.ilen y hy
      · rcases List.mem_append.1 hy with hy | hy
        · exact h.ilen y hy
        · rw [List.mem_singleton.1 hy]; exact Nat.zero_le _
    obtain ⟨i, hi, e⟩ := List.mem_iff_getElem.1 hx
    rw [List.getElem_modify] at e
    rw [List.length_modify] at hi
    split at e
    · rw [← e, List.length_append]
      have := h0 _ (List.getElem_mem hi)
      simp; omega
    · rw [← e]
      have := h0 _ (List.getElem_mem hi)
      omega
  · show (keysG s.keys _).Nodup
    rw [← ht]
    unfold keysG
    split
    · exact h.nodup
    · rename_i hm
      rw [List.nodup_append]
      refine ⟨h.nodup, by simp, fun a ha b hb => ?_⟩
      rw [List.mem_singleton] at hb
      subst hb
      exact fun e => hm (e ▸ ha)
theorem gapSt_inv (L : List Lf) : ∀ k, GInv L k (gapSt L k)
  | 0 => GInv.start L
  | k + 1 => by rw [gapSt_succ]; exact (gapSt_inv L k).step
open Go.RowKit Go.Sort Go.Maps
def keyI (k : Int) : Lit := .int .i64 k
def mapR : List Int → DataW Unit
  | [] => .map []
  | k :: r => (mapR r).put (keyI k) (.lit (.int .i64 (r.length : Int)))
def mapD (ks : List Int) : DataW Unit := mapR ks.reverse
theorem mapD_snoc (ks : List Int) (k : Int) : mapD (ks ++ [k]) = (mapD ks).put (keyI k) (.lit (.int .i64 (ks.length : Int))) := by
  unfold mapD
  rw [List.reverse_append]
  simp [mapR]
theorem isKey_int (k : Int) : WideAt.IsKeyLit (keyI k) := by simp [keyI, WideAt.IsKeyLit]
theorem mapR_isMap : ∀ r, IsMap (mapR r)
  | [] => isMap_empty
  | k :: r => (mapR_isMap r).put _ _
theorem keyI_ne {a b : Int} (h : a ≠ b) : keyI a ≠ keyI b := fun e => h (by injection e)
theorem has_mapR (k : Int) : ∀ r, Maps.has (mapR r) (keyI k) = decide (k ∈ r)
  | [] => rfl
  | a :: r => by
    rw [mapR]
    by_cases e : k = a
    · subst e
      rw [has_put_same (mapR_isMap r) (isKey_int k)]
      simp
    · rw [has_put_other (keyI_ne e), has_mapR k r]
      simp [e]
theorem has_mapD (ks : List Int) (k : Int) : Maps.has (mapD ks) (keyI k) = decide (k ∈ ks) := by
  unfold mapD
  rw [has_mapR]
  simp
theorem atKey_mapR (k : Int) (z : DataW Unit) : ∀ (r : List Int) (i : Nat), r.Nodup → r.reverse[i]? = some k → (mapR r).atKey (keyI k) z = .lit (.int .i64 (i : Int))
  | [], i, _, h => by simp at h
  | a :: r, i, hn, h => by
    rw [List.reverse_cons] at h
    obtain ⟨h1, h2⟩ := List.nodup_cons.1 hn
    rw [mapR]
    by_cases hi : i < r.length
    · rw [List.getElem?_append_left (by simpa using hi)] at h
      have hm : k ∈ r := List.mem_reverse.1 (List.mem_of_getElem? h)
      rw [atKey_put_other (keyI_ne (fun e : k = a => h1 (by rw [← e]; exact hm)))]
      exact atKey_mapR k z r i h2 h
    · have hlt : i < (r.reverse ++ [a]).length := by
        rcases Nat.lt_or_ge i (r.reverse ++ [a]).length with h3 | h3
        · exact h3
        · rw [List.getElem?_eq_none h3] at h; cases h
      have e : i = r.length := by simp at hlt; omega
      subst e
      rw [List.getElem?_append_right (by simp)] at h
      simp at h
      subst h
      exact atKey_put_same (mapR_isMap r) (isKey_int _) _ _
theorem atKey_mapD {ks : List Int} {k : Int} (hn : ks.Nodup) (hk : k ∈ ks) (z : DataW Unit) : (mapD ks).atKey (keyI k) z = .lit (.int .i64 (idxG ks k : Int)) := by
  refine atKey_mapR k z ks.reverse _ (List.pairwise_reverse.2 (hn.imp fun h => h.symm)) ?_
  rw [List.reverse_reverse]
  unfold idxG
  rw [List.getElem?_eq_getElem (List.idxOf_lt_length_of_mem hk)]
  exact congrArg some (List.getElem_idxOf _)
theorem idxG_new {ks : List Int} {k : Int} (hk : k ∉ ks) : idxG (ks ++ [k]) k = ks.length := by
  unfold idxG
  rw [List.idxOf_append, if_neg hk]
  simp
end Go.Proofs.YtoaggmegmgdgbaaGreat
