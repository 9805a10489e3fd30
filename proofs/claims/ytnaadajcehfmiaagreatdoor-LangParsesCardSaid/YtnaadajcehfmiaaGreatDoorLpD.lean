/- Lang: what is read is written, and read again. -/
import Derived.Test.YtnaadajcehfmiaaGreatDoorLpC
import Derived.Test.YtnaadajcehfmiaaGreatDoorLsA
namespace Go.Proofs.YtnaadajcehfmiaaGreatDoor

def brkB (c : Bool) (C : List Nat) : List Nat := if c then [40] ++ C ++ [41] else C
/-- The bytes. -/
def Ex.byt (ti : Bool) : Ex → List Nat
  | .num t => t
  | .i => [105]
  | .z => [122]
  | .name t => t
  | .neg e => [45] ++ brkB (decide (e.lvl < 3)) (e.byt ti)
  | .pow e n => brkB (decide (e.lvl < 5)) (e.byt ti) ++ [94] ++ digL n
  | .bin k x y => brkB (decide (x.lvl < if k = 6 ∨ k = 7 then 1 else 2)) (x.byt ti) ++ sgnW ti k ++ brkB (decide (y.lvl < if k = 6 ∨ k = 7 then 2 else 3)) (y.byt ti)
/-! What is written of parts that lie in a row. -/
def rawL (l : List Nat × Nat) : RLt := ⟨l.1, l.2⟩
/-- Parts that were read. -/
structure Prg (D : List (List Nat × Ex)) (x : Ex) (N : List Nod) (L : List (List Nat × Nat)) (m : Nat) : Prop where
  eN : N = flatD D 0 ++ x.flat (sizeD D)
  eL : L = letsD D 0
  em : m + 1 = sizeD D + x.size
  ok : OkD [] x D
  z : N.length ≤ 4096
  w : wtD x D ≤ 16384
section
variable {D : List (List Nat × Ex)} {x : Ex} {N : List Nod} {L : List (List Nat × Nat)} {m : Nat}
theorem Prg.len (h : Prg D x N L m) : N.length = sizeD D + x.size := by rw [h.eN, List.length_append, flatD_len, Ex.flat_len]
/-- What a text says, if it has no fault, are parts that were read. -/
theorem prg_of {s : List Nat} (hs : Byt s) {T : List Tok} {last : Nat} {wrong : Bool} {m : Nat} {st : PS} (hl : s.length ≤ 16384) (hx : Lx s 0 T last wrong) (h : progP T last wrong = some (.ok m st)) : ∃ D x, Prg D x st.N st.L m := by
  have hk := Lx.ok hs hx
  obtain ⟨D, x, hM⟩ := textP_snd (sumP_snd 64) _ ⟨T, [], [], []⟩ m st h hk.1 rfl
  refine ⟨D, x, ?_, ?_, ?_, hM.ok, hM.z, ?_⟩
  · rw [hM.N]
    show [] ++ (flatD D 0 ++ x.flat (0 + sizeD D)) = _
    rw [Nat.zero_add]; rfl
  · rw [hM.L]; rfl
  · have := hM.m
    have e : m + 1 = 0 + sizeD D + x.size := this
    omega
  · have := hM.w
    have := hx.last
    omega
end
/-! The heights. -/
end Go.Proofs.YtnaadajcehfmiaaGreatDoor
