import Derived.Test.YtoaggmegmgdgbaaGreatLamB
import Derived.Maps.Own
import Derived.Maps.AppendAt
namespace Go.Proofs.YtoaggmegmgdgbaaGreat
open Go.RowKit Go.Sort Go.Maps
structure It where
  own : Option Nat
  P : World → Prop
  keep : ∀ {w w' : World} {row : Option Nat}, P w → w.grownBy w' row → (own = none ∨ own ≠ row) → P w'
  lt : ∀ {w : World} {k : Nat}, P w → own = some k → k < w.heap.size
def Far (a b : It) : Prop := ∀ k, a.own = some k → b.own ≠ some k
theorem Far.symm {a b : It} (h : Far a b) : Far b a := fun k hb ha => h k ha hb
def Sep (w : World) (l : List It) : Prop := (∀ a, a ∈ l → a.P w) ∧ l.Pairwise Far
section
variable {w w' : World} {l A B : List It} {a a' : It}
theorem Sep.nil : Sep w [] := ⟨fun _ h => absurd h (by simp), List.Pairwise.nil⟩
theorem Sep.get (h : Sep w l) (ha : a ∈ l) : a.P w := h.1 a ha
theorem Sep.grown (h : Sep w l) (hg : w.grownBy w' none) : Sep w' l := ⟨fun a ha => a.keep (h.1 a ha) hg (by
  rcases ho : a.own with _ | k
  · exact .inl rfl
  · exact .inr (by simp)), h.2⟩
theorem Sep.below (h : Sep w l) (hb : Below w.heap.size w w') : Sep w' l := h.grown ⟨hb.os, hb.tape, hb.output, hb.size, fun j hj _ => hb.block j hj⟩
theorem Sep.alloc (h : Sep w l) (o : Obj) : Sep (w.alloc o) l := h.grown (World.grownBy_alloc w o none)
theorem Sep.drewN (h : Sep w l) (n : Nat) : Sep (w.drewN n) l := h.grown ⟨rfl, rfl, rfl, Nat.le_refl _, fun _ _ _ => rfl⟩
theorem Sep.upd (h : Sep w (A ++ a :: B)) (hg : w.grownBy w' a.own) (hP : a'.P w') (hloc : ∀ k, a'.own = some k → a.own = some k ∨ w.heap.size ≤ k) : Sep w' (A ++ a' :: B) := by
  obtain ⟨h1, h2⟩ := h
  obtain ⟨p1, p2, p3⟩ := List.pairwise_append.1 h2
  obtain ⟨p4, p5⟩ := List.pairwise_cons.1 p2
  have hA : ∀ x, x ∈ A → Far x a := fun x hx => p3 x hx a (List.mem_cons_self ..)
  have hk : ∀ x, x ∈ A ∨ x ∈ B → x.P w' := fun x hx => by
    have hx1 : x.P w := h1 x (by rcases hx with hx | hx <;> simp [hx])
    refine x.keep hx1 hg ?_
    rcases ho : x.own with _ | k
    · exact .inl rfl
    · refine .inr (fun e => ?_)
      rcases hx with hx | hx
      · exact hA x hx k ho e.symm
      · exact p4 x hx k e.symm ho
  have hf : ∀ x, x ∈ A ∨ x ∈ B → Far x a' := fun x hx k h3 h4 => by
    have hlt := x.lt (h1 x (by rcases hx with hx | hx <;> simp [hx])) h3
    rcases hloc k h4 with h5 | h5
    · rcases hx with hx | hx
      · exact hA x hx k h3 h5
      · exact p4 x hx k h5 h3
    · omega
  refine ⟨fun x hx => ?_, List.pairwise_append.2 ⟨p1, List.pairwise_cons.2 ⟨fun x hx => (hf x (.inr hx)).symm, p5⟩, fun x hx y hy => ?_⟩⟩
  · rcases List.mem_append.1 hx with hx | hx
    · exact hk x (.inl hx)
    · rcases List.mem_cons.1 hx with rfl | hx
      · exact hP
      · exact hk x (.inr hx)
  · rcases List.mem_cons.1 hy with rfl | hy
    · exact hf x (.inl hx)
    · exact p3 x hx y (List.mem_cons_of_mem _ hy)
theorem Sep.cons (h : Sep w l) (hP : a.P w) (hf : ∀ x, x ∈ l → Far a x) : Sep w (a :: l) := ⟨fun x hx => by
  rcases List.mem_cons.1 hx with rfl | hx
  · exact hP
  · exact h.1 x hx, List.pairwise_cons.2 ⟨hf, h.2⟩⟩
theorem Sep.snoc (h : Sep w l) (hP : a.P w) (hf : ∀ x, x ∈ l → Far a x) : Sep w (l ++ [a]) := ⟨fun x hx => by
  rcases List.mem_append.1 hx with hx | hx
  · exact h.1 x hx
  · rw [List.mem_singleton.1 hx]; exact hP, List.pairwise_append.2 ⟨h.2, List.pairwise_singleton _ _, fun x hx y hy => by
    rw [List.mem_singleton.1 hy]; exact (hf x hx).symm⟩⟩
theorem Sep.perm {l m : List It} (h : Sep w l) (hp : l.Perm m) : Sep w m := ⟨fun a ha => h.1 a (hp.mem_iff.2 ha), h.2.perm hp Far.symm⟩
theorem Sep.sub {l m : List It} (h : Sep w l) (hs : m.Sublist l) : Sep w m := ⟨fun a ha => h.1 a (hs.subset ha), h.2.sublist hs⟩
theorem Sep.newR {w0 : World} (h : Sep w0 l) (hg : w0.grownBy w none) (hP : a.P w) (hl : ∀ k, a.own = some k → w0.heap.size ≤ k) : Sep w (l ++ [a]) := (h.grown hg).snoc hP (fun x hx k h1 h2 => by
  have := x.lt (h.1 x hx) h2
  have := hl k h1
  omega)
theorem Sep.new {w0 : World} (h : Sep w0 l) (hg : w0.grownBy w none) (hP : a.P w) (hl : ∀ k, a.own = some k → w0.heap.size ≤ k) : Sep w (a :: l) := (h.grown hg).cons hP (fun x hx k h1 h2 => by
  have := x.lt (h.1 x hx) h2
  have := hl k h1
  omega)
end
theorem row_mono {w : World} {B B' : Nat} {e : TypeId} {size : Nat} {v : Value} {n : Nat} {xs : List Value} (h : w.ownsRow B e size v n xs) (hb : B' ≤ B) : w.ownsRow B' e size v n xs := by
  refine ⟨h.1, h.2.imp id ?_⟩
  rintro ⟨g, cap, cur, rfl, h1, rest⟩
  exact ⟨g, cap, cur, rfl, Nat.le_trans hb h1, rest⟩
def itRow (B : Nat) (e : TypeId) (size : Nat) (v : Value) (n : Nat) (xs : List Value) : It where
  own := v.ownBlock
  P w := w.ownsRow B e size v n xs
  keep h hg hne := World.ownsRow.kept h hg hne
  lt h hk := (World.ownsRow.lt h _ hk).2
def itMap {H : Type} (P : Program) (k : TypeId) (R : Value → Option (DataW H × List MemPlace)) (b n : Nat) (D : DataW H) : It where
  own := some b
  P w := w.ownsMap P k R b n D
  keep h hg hne := World.ownsMap.kept h hg (by
    rcases hne with h | h
    · cases h
    · exact h)
  lt h hk := by injection hk with hk; rw [← hk]; exact World.ownsMap.lt h
def itBlk (g : Nat) (T : TypeId) (cs : Array Value) : It where
  own := some g
  P w := Blk w g T cs
  keep h hg hne := Blk.grown h hg (by
    rcases hne with h | h
    · cases h
    · exact h)
  lt h hk := by injection hk with hk; rw [← hk]; exact h.lt
open Go.RowKit Go.Sort Go.Maps
def inIts {α : Type} (B : Nat) (e : TypeId) (size : Nat) (enc : α → List Value) (vs : List Value) (out : List (List α)) : List It := List.zipWith (fun v xs => itRow B e size v xs.length (xs.flatMap enc)) vs out
section
variable {α : Type} {B : Nat} {e oe : TypeId} {size : Nat} {enc : α → List Value} {vs : List Value} {out : List (List α)} {v v' : Value} {w w' : World} {X : List It}
theorem inIts_len (h : vs.length = out.length) : (inIts B e size enc vs out).length = vs.length := by simp [inIts, h]
theorem inIts_get (h : vs.length = out.length) {g : Nat} (hg : g < vs.length) : (inIts B e size enc vs out)[g]'(by rw [inIts_len h]; exact hg) = itRow B e size vs[g] (out[g]'(h ▸ hg)).length ((out[g]'(h ▸ hg)).flatMap enc) := by simp [inIts]
theorem inIts_snoc (h : vs.length = out.length) (u : Value) (x : List α) : inIts B e size enc (vs ++ [u]) (out ++ [x]) = inIts B e size enc vs out ++ [itRow B e size u x.length (x.flatMap enc)] := by
  unfold inIts
  rw [List.zipWith_append h]
  rfl
theorem inIts_set (h : vs.length = out.length) {g : Nat} (hg : g < vs.length) (u : Value) (x : List α) : inIts B e size enc (vs.set g u) (out.set g x) = (inIts B e size enc vs out).take g ++ itRow B e size u x.length (x.flatMap enc) :: (inIts B e size enc vs out).drop (g + 1) := by
  have hl := inIts_len (B := B) (e := e) (size := size) (enc := enc) h
  have h2 : (vs.set g u).length = (out.set g x).length := by simp [h]
  apply List.ext_getElem
  · rw [inIts_len h2, List.length_append, List.length_cons, List.length_take, List.length_drop, hl, List.length_set]; omega
  · intro i h3 h4
    rw [inIts_len h2, List.length_set] at h3
    rw [inIts_get h2 (by rw [List.length_set]; exact h3)]
    rcases Nat.lt_trichotomy i g with hi | hi | hi
    · rw [List.getElem_append_left (by rw [List.length_take, hl]; omega), List.getElem_take, inIts_get h h3]
      simp only [List.getElem_set_ne (show g ≠ i by omega)]
    · subst hi
      rw [List.getElem_append_right (by rw [List.length_take, hl]; omega)]
      have e1 : i - (List.take i (inIts B e size enc vs out)).length = 0 := by rw [List.length_take, hl]; omega
      simp only [e1, List.getElem_cons_zero, List.getElem_set_self]
    · rw [List.getElem_append_right (by rw [List.length_take, hl]; omega)]
      obtain ⟨t, rfl⟩ : ∃ t, i = g + 1 + t := ⟨i - (g + 1), by omega⟩
      have e1 : g + 1 + t - (List.take g (inIts B e size enc vs out)).length = t + 1 := by rw [List.length_take, hl]; omega
      simp only [e1, List.getElem_cons_succ, List.getElem_drop]
      rw [inIts_get h h3]
      simp only [List.getElem_set_ne (show g ≠ g + 1 + t by omega)]
theorem list_split {β : Type} (l : List β) {g : Nat} (hg : g < l.length) : l = l.take g ++ l[g] :: l.drop (g + 1) := by
  rw [List.getElem_cons_drop, List.take_append_drop]
def NestP (w : World) (B : Nat) (oe e : TypeId) (size : Nat) (enc : α → List Value) (X : List It) (v : Value) (vs : List Value) (out : List (List α)) : Prop :=
  vs.length = out.length ∧ Sep w (X ++ itRow B oe 1 v vs.length vs :: inIts B e size enc vs out)
theorem NestP.row (h : NestP w B oe e size enc X v vs out) : w.ownsRow B oe 1 v vs.length vs := h.2.get (a := itRow B oe 1 v vs.length vs) (by simp)
theorem NestP.inner (h : NestP w B oe e size enc X v vs out) {g : Nat} (hg : g < vs.length) : w.ownsRow B e size vs[g] (out[g]'(h.1 ▸ hg)).length ((out[g]'(h.1 ▸ hg)).flatMap enc) := by
  have := h.2.get (a := itRow B e size vs[g] (out[g]'(h.1 ▸ hg)).length ((out[g]'(h.1 ▸ hg)).flatMap enc)) (by
    rw [List.mem_append, List.mem_cons]
    right; right
    rw [← inIts_get h.1 hg]
    exact List.getElem_mem _)
  exact this
theorem NestP.below (h : NestP w B oe e size enc X v vs out) (hb : Below w.heap.size w w') : NestP w' B oe e size enc X v vs out := ⟨h.1, h.2.below hb⟩
theorem NestP.alloc (h : NestP w B oe e size enc X v vs out) (o : Obj) : NestP (w.alloc o) B oe e size enc X v vs out := ⟨h.1, h.2.alloc o⟩
theorem NestP.drewN (h : NestP w B oe e size enc X v vs out) (n : Nat) : NestP (w.drewN n) B oe e size enc X v vs out := ⟨h.1, h.2.drewN n⟩
theorem NestP.addNew {a : It} (h : NestP w B oe e size enc X v vs out) (hg : w.grownBy w' none) (hP : a.P w') (hl : ∀ k, a.own = some k → w.heap.size ≤ k) : NestP w' B oe e size enc (X ++ [a]) v vs out := ⟨h.1, by
  have h2 := h.2.new hg hP hl
  refine h2.perm ?_
  rw [List.append_assoc]
  exact (List.perm_middle (l₁ := X) (a := a)).symm⟩
theorem NestP.drop {a : It} (h : NestP w B oe e size enc (X ++ [a]) v vs out) : NestP w B oe e size enc X v vs out := ⟨h.1, h.2.sub (List.Sublist.append (List.sublist_append_left ..) (List.Sublist.refl _))⟩
theorem NestP.bare (h : NestP w B oe e size enc X v vs out) : NestP w B oe e size enc [] v vs out := ⟨h.1, h.2.sub (List.sublist_append_right X _)⟩
theorem NestP.far {gb n cap : Nat} (h : NestP w B oe e size enc X (.slice (some ⟨gb, 0, none⟩) n cap) vs out) {g : Nat} (hg : g < vs.length) : some gb ≠ vs[g].ownBlock := fun e1 => by
  have h2 := (List.pairwise_append.1 h.2.2).2.1
  have h3 := (List.pairwise_cons.1 h2).1 (itRow B e size vs[g] (out[g]'(h.1 ▸ hg)).length ((out[g]'(h.1 ▸ hg)).flatMap enc)) (by rw [← inIts_get h.1 hg]; exact List.getElem_mem _)
  exact h3 gb rfl e1.symm
theorem NestP.side {A C : List It} {a a' : It} (h : NestP w B oe e size enc (A ++ a :: C) v vs out) (hg : w.grownBy w' a.own) (hP : a'.P w') (hloc : ∀ k, a'.own = some k → a.own = some k ∨ w.heap.size ≤ k) : NestP w' B oe e size enc (A ++ a' :: C) v vs out := by
  obtain ⟨h1, h2⟩ := h
  rw [List.append_assoc, List.cons_append] at h2
  refine ⟨h1, ?_⟩
  rw [List.append_assoc, List.cons_append]
  exact h2.upd hg hP hloc
theorem NestP.push (h : NestP w B oe e size enc X v vs out) (hg : w.grownBy w' v.ownBlock) (hrow : w'.ownsRow B oe 1 v' (vs.length + 1) (vs ++ [.slice none 0 0])) (hloc : v'.ownBlock = v.ownBlock ∨ v'.ownBlock = some w.heap.size) : NestP w' B oe e size enc X v' (vs ++ [.slice none 0 0]) (out ++ [[]]) := by
  obtain ⟨h1, h2⟩ := h
  have h3 := h2.upd (a' := itRow B oe 1 v' (vs ++ [Value.slice none 0 0]).length (vs ++ [.slice none 0 0])) hg (by rw [List.length_append]; exact hrow) (fun k hk => by
    have hk : v'.ownBlock = some k := hk
    show v.ownBlock = some k ∨ _
    rcases hloc with e1 | e1
    · exact .inl (by rw [← e1]; exact hk)
    · right; rw [e1] at hk; injection hk with hk; omega)
  refine ⟨by simp [h1], ?_⟩
  rw [inIts_snoc h1]
  have h4 := h3.snoc (a := itRow B e size (.slice none 0 0) 0 []) (World.ownsRow_nil _ _ _ _) (fun x _ k hk => by cases hk)
  simpa using h4
theorem NestP.set {w2 : World} {gb cap : Nat} {u : Value} {xs' : List α} (h : NestP w B oe e size enc X (.slice (some ⟨gb, 0, none⟩) vs.length cap) vs out) {g : Nat} (hgl : g < vs.length) (hg : w.grownBy w' vs[g].ownBlock) (hrow : w'.ownsRow B e size u xs'.length (xs'.flatMap enc)) (hloc : u.ownBlock = vs[g].ownBlock ∨ ∃ q, u.ownBlock = some q ∧ w.heap.size ≤ q) (hw2 : w2 = w'.setCell ⟨gb, g, none⟩ u) : NestP w2 B oe e size enc X (.slice (some ⟨gb, 0, none⟩) vs.length cap) (vs.set g u) (out.set g xs') := by
  subst hw2
  obtain ⟨h1, h2⟩ := h
  have hl := inIts_len (B := B) (e := e) (size := size) (enc := enc) h1
  have hlt : g < (inIts B e size enc vs out).length := by rw [hl]; exact hgl
  have h3 := h2
  rw [list_split (inIts B e size enc vs out) hlt, inIts_get h1 hgl, show X ++ itRow B oe 1 (.slice (some ⟨gb, 0, none⟩) vs.length cap) vs.length vs :: ((inIts B e size enc vs out).take g ++ itRow B e size vs[g] (out[g]'(h1 ▸ hgl)).length ((out[g]'(h1 ▸ hgl)).flatMap enc) :: (inIts B e size enc vs out).drop (g + 1)) = (X ++ itRow B oe 1 (.slice (some ⟨gb, 0, none⟩) vs.length cap) vs.length vs :: (inIts B e size enc vs out).take g) ++ itRow B e size vs[g] (out[g]'(h1 ▸ hgl)).length ((out[g]'(h1 ▸ hgl)).flatMap enc) :: (inIts B e size enc vs out).drop (g + 1) by simp] at h3
  have h4 := h3.upd (a' := itRow B e size u xs'.length (xs'.flatMap enc)) hg hrow (fun k hk => by
    have hk : u.ownBlock = some k := hk
    show vs[g].ownBlock = some k ∨ _
    rcases hloc with e1 | ⟨q, e1, e2⟩
    · exact .inl (by rw [← e1]; exact hk)
    · right; rw [e1] at hk; injection hk with hk; omega)
  rw [show (X ++ itRow B oe 1 (.slice (some ⟨gb, 0, none⟩) vs.length cap) vs.length vs :: (inIts B e size enc vs out).take g) ++ itRow B e size u xs'.length (xs'.flatMap enc) :: (inIts B e size enc vs out).drop (g + 1) = X ++ itRow B oe 1 (.slice (some ⟨gb, 0, none⟩) vs.length cap) vs.length vs :: ((inIts B e size enc vs out).take g ++ itRow B e size u xs'.length (xs'.flatMap enc) :: (inIts B e size enc vs out).drop (g + 1)) by simp, ← inIts_set h1 hgl] at h4
  have hr : w'.ownsRow B oe 1 (.slice (some ⟨gb, 0, none⟩) vs.length cap) vs.length vs := h4.get (a := itRow B oe 1 (.slice (some ⟨gb, 0, none⟩) vs.length cap) vs.length vs) (by simp)
  obtain ⟨s1, s2⟩ := World.ownsRow.stored hr g u
  refine ⟨by simp [h1], ?_⟩
  rw [List.length_set]
  exact h4.upd (a' := itRow B oe 1 (.slice (some ⟨gb, 0, none⟩) vs.length cap) vs.length (vs.set g u)) s2 s1 (fun k hk => .inl hk)
end
end Go.Proofs.YtoaggmegmgdgbaaGreat
