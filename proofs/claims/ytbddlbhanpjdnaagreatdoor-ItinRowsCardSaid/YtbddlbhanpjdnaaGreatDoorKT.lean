/- Blocks and rows that are kept. -/
import Derived.Test.YtbddlbhanpjdnaaGreatDoorSpl
import Derived.Test.YtbddlbhanpjdnaaGreatDoorRSm
namespace Go.Proofs.YtbddlbhanpjdnaaGreatDoor
open Go.RowKit Go.Sort

/-- Blocks that are known whole. -/
def KeepT (W : World) (l : List (Nat × TypeId × Array Value)) : Prop := ∀ (i : Nat) (x : Nat × TypeId × Array Value), l[i]? = some x → Blk W x.1 x.2.1 x.2.2
section
variable {W W' : World} {l : List (Nat × TypeId × Array Value)}
theorem KeepT.below (h : KeepT W l) (hb : Below W.heap.size W W') : KeepT W' l := fun i x hx => Blk.below (h i x hx) hb
theorem KeepT.alloc (h : KeepT W l) (o : Obj) : KeepT (W.alloc o) l := fun i x hx => Blk.alloc (h i x hx) o
theorem KeepT.drewN (h : KeepT W l) (n : Nat) : KeepT (W.drewN n) l := fun i x hx => Blk.drewN (h i x hx) n
theorem KeepT.at_ (h : KeepT W l) (i : Nat) {g : Nat} {T : TypeId} {cs : Array Value} (hx : l[i]? = some (g, T, cs)) : Blk W g T cs := h i _ hx
theorem KeepT.one {g : Nat} {T : TypeId} {cs : Array Value} (h : Blk W g T cs) : KeepT W [(g, T, cs)] := fun i x hx => by
  match i, hx with
  | 0, hx => cases hx; exact h
theorem KeepT.snoc (h : KeepT W l) {g : Nat} {T : TypeId} {cs : Array Value} (k : Blk W g T cs) : KeepT W (l ++ [(g, T, cs)]) := fun i x hx => by
  rcases Nat.lt_or_ge i l.length with hi | hi
  · rw [List.getElem?_append_left hi] at hx; exact h i x hx
  · rw [List.getElem?_append_right hi] at hx
    match i - l.length, hx with
    | 0, hx => cases hx; exact k
end
/-- A row that may be, or none. -/
def MayE (P Q : List Nat) : Prop := mayI P Q = true ∨ (P = [] ∧ Q = [])
theorem Itn.of_pf {w : World} {B : Nat} {v1 v2 : Value} {P Q : List Nat} (h1 : Pf w B v1 P) (h2 : Pf w B v2 Q) (hm : MayE P Q) : Itn w v1 v2 P Q := by
  obtain ⟨A1, c1, rfl, -⟩ := h1.form
  obtain ⟨A2, c2, rfl, -⟩ := h2.form
  have hs : ∀ x, symB x = true → x < 256 := fun x h => by simp [symB] at h; omega
  rcases hm with hm | ⟨rfl, rfl⟩
  · obtain ⟨-, m2, m3, m4⟩ := mayI_spec hm
    exact ⟨⟨_, _, _, _, rfl, h1.rd⟩, ⟨_, _, _, _, rfl, h2.rd⟩, fun x hx => hs x (m3 x hx), fun x hx => hs x (m4 x hx), by omega, by omega⟩
  · exact ⟨⟨_, _, _, _, rfl, h1.rd⟩, ⟨_, _, _, _, rfl, h2.rd⟩, (fun x hx => by cases hx), (fun x hx => by cases hx), by simp, by simp⟩
theorem Itn.none_ (w : World) : Itn w (.slice none 0 0) (.slice none 0 0) [] [] :=
  ⟨⟨_, _, _, 5, rfl, Rd.nil_⟩, ⟨_, _, _, 5, rfl, Rd.nil_⟩, (fun x hx => by cases hx), (fun x hx => by cases hx), by simp, by simp⟩
theorem MayE.len {P Q : List Nat} (h : MayE P Q) : P.length ≤ 4096 ∧ Q.length ≤ 4096 := by
  rcases h with h | ⟨rfl, rfl⟩
  · have := (mayI_spec h).2.1; omega
  · simp
theorem Pf.wr {w : World} {B : Nat} {A : Option Addr} {n c k : Nat} {l : List Nat} (h : Pf w B (.slice A n c) l) (hc : l = [] → c = 0) (hk : WrB (.slice A n c) k) : B ≤ k ∧ k < w.heap.size := by
  obtain ⟨n', c', e, h0⟩ := hk
  injection e with e1 e2 e3
  subst e1 e2 e3
  obtain ⟨g, cur, e, hB, hh, -⟩ := h.open_ (fun e => by have := hc e; omega)
  injection e with e
  injection e with e
  subst e
  exact ⟨hB, heap_lt hh⟩
theorem Pf.but {w w' : World} {B : Nat} {v : Value} {l : List Nat} {r : Nat → Prop} (h : Pf w B v l) (hb : But r w w') (hr : ∀ k, B ≤ k → ¬ r k) : Pf w' B v l := h.keep fun g hg hl => hb.block g hl (hr g hg)

theorem Sp.wr {w : World} {v : Value} {n k : Nat} (h : Sp w v n) (hk : WrB v k) : ∃ cur, w.heap[k]? = some (.cells cur 5 (0, 0)) := by
  obtain ⟨A, c, e, -, -, -, h4⟩ := h
  obtain ⟨n', c', e2, h0⟩ := hk
  rw [e] at e2
  injection e2 with e2 e3 e4
  obtain ⟨g, cur, e5, hh, -⟩ := h4 (by omega)
  rw [e2] at e5
  injection e5 with e5
  injection e5 with e5
  subst e5
  exact ⟨cur, hh⟩
theorem KeepT.but {W W' : World} {l : List (Nat × TypeId × Array Value)} {r : Nat → Prop} (h : KeepT W l) (hb : But r W W') (hr : ∀ k, r k → ∃ cur, W.heap[k]? = some (.cells cur 5 (0, 0))) (hT : l.all (fun x => !decide (x.2.1 = 5)) = true) : KeepT W' l := fun i x hx => by
  have hB := h i x hx
  refine (hb.block _ hB.lt (fun hrk => ?_)).trans hB
  obtain ⟨cur, hc⟩ := hr _ hrk
  have ht := List.all_eq_true.1 hT x (List.mem_of_getElem? hx)
  unfold Blk at hB
  rw [hc] at hB
  injection hB with hB
  injection hB with _ hB
  simp [hB] at ht

theorem rsameY (a b c d : Value) (P Q : List Nat) (w : World) (h : Itn w a b P Q) (k : Itn w c d P Q) :
    Calls Tryz.prog 12 #[.agg #[a, b], .agg #[c, d]] w (RetVal (.bool true) w) := by
  have := rsame_any a b c d P Q P Q w h k
  simpa using this

end Go.Proofs.YtbddlbhanpjdnaaGreatDoor
