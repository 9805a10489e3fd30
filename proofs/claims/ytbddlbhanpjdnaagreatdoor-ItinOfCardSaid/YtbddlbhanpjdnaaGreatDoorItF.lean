/- filigreelaw22.ItinOf: the walk. -/
import Derived.Test.YtbddlbhanpjdnaaGreatDoorSpl
import Derived.Test.YtbddlbhanpjdnaaGreatDoorLawC
import Derived.Test.YtbddlbhanpjdnaaGreatDoorRSm
namespace Go.Proofs.YtbddlbhanpjdnaaGreatDoor
open Go.RowKit Go.Sort

/-- Blocks that are known whole. -/
def KeepT (W : World) (l : List (Nat × TypeId × Array Value)) : Prop := ∀ (i : Nat) (x : Nat × TypeId × Array Value), l[i]? = some x → Blk W x.1 x.2.1 x.2.2
section
variable {W W' : World} {l : List (Nat × TypeId × Array Value)}
theorem KeepT.below (h : KeepT W l) (hb : Below W.heap.size W W') : KeepT W' l := fun i x hx => Blk.below (h i x hx) hb
theorem KeepT.alloc (h : KeepT W l) (o : Obj) : KeepT (W.alloc o) l := fun i x hx => Blk.alloc (h i x hx) o
theorem KeepT.drewN (h : KeepT W l) (n : Nat) : KeepT (W.drewN n) l := fun i x hx => Blk.drewN (h i x hx) n
theorem KeepT.at_ (h : KeepT W l) (i : Nat) {g : Nat} {T : TypeId} {cs : Array Value} (hx : l[i]? = some (g, T, cs)) : Blk W g T cs := h i _ hx
theorem KeepT.one {g : Nat} {T : TypeId} {cs : Array Value} (h : Blk W g T cs) : KeepT W [(g, T, cs)] := fun i x hx => by
  match i, hx with
  | 0, hx => cases hx; exact h
theorem KeepT.snoc (h : KeepT W l) {g : Nat} {T : TypeId} {cs : Array Value} (k : Blk W g T cs) : KeepT W (l ++ [(g, T, cs)]) := fun i x hx => by
  rcases Nat.lt_or_ge i l.length with hi | hi
  · rw [List.getElem?_append_left hi] at hx; exact h i x hx
  · rw [List.getElem?_append_right hi] at hx
    match i - l.length, hx with
    | 0, hx => cases hx; exact k
end
/-- A row that may be, or none. -/
def MayE (P Q : List Nat) : Prop := mayI P Q = true ∨ (P = [] ∧ Q = [])
theorem Itn.of_pf {w : World} {B : Nat} {v1 v2 : Value} {P Q : List Nat} (h1 : Pf w B v1 P) (h2 : Pf w B v2 Q) (hm : MayE P Q) : Itn w v1 v2 P Q := by
  obtain ⟨A1, c1, rfl, -⟩ := h1.form
  obtain ⟨A2, c2, rfl, -⟩ := h2.form
  have hs : ∀ x, symB x = true → x < 256 := fun x h => by simp [symB] at h; omega
  rcases hm with hm | ⟨rfl, rfl⟩
  · obtain ⟨-, m2, m3, m4⟩ := mayI_spec hm
    exact ⟨⟨_, _, _, _, rfl, h1.rd⟩, ⟨_, _, _, _, rfl, h2.rd⟩, fun x hx => hs x (m3 x hx), fun x hx => hs x (m4 x hx), by omega, by omega⟩
  · exact ⟨⟨_, _, _, _, rfl, h1.rd⟩, ⟨_, _, _, _, rfl, h2.rd⟩, (fun x hx => by cases hx), (fun x hx => by cases hx), by simp, by simp⟩
theorem Itn.none_ (w : World) : Itn w (.slice none 0 0) (.slice none 0 0) [] [] :=
  ⟨⟨_, _, _, 5, rfl, Rd.nil_⟩, ⟨_, _, _, 5, rfl, Rd.nil_⟩, (fun x hx => by cases hx), (fun x hx => by cases hx), by simp, by simp⟩
theorem MayE.len {P Q : List Nat} (h : MayE P Q) : P.length ≤ 4096 ∧ Q.length ≤ 4096 := by
  rcases h with h | ⟨rfl, rfl⟩
  · have := (mayI_spec h).2.1; omega
  · simp
theorem Pf.wr {w : World} {B : Nat} {A : Option Addr} {n c k : Nat} {l : List Nat} (h : Pf w B (.slice A n c) l) (hc : l = [] → c = 0) (hk : WrB (.slice A n c) k) : B ≤ k ∧ k < w.heap.size := by
  obtain ⟨n', c', e, h0⟩ := hk
  injection e with e1 e2 e3
  subst e1 e2 e3
  obtain ⟨g, cur, e, hB, hh, -⟩ := h.open_ (fun e => by have := hc e; omega)
  injection e with e
  injection e with e
  subst e
  exact ⟨hB, heap_lt hh⟩
theorem Pf.but {w w' : World} {B : Nat} {v : Value} {l : List Nat} {r : Nat → Prop} (h : Pf w B v l) (hb : But r w w') (hr : ∀ k, B ≤ k → ¬ r k) : Pf w' B v l := h.keep fun g hg hl => hb.block g hl (hr g hg)

theorem Sp.wr {w : World} {v : Value} {n k : Nat} (h : Sp w v n) (hk : WrB v k) : ∃ cur, w.heap[k]? = some (.cells cur 5 (0, 0)) := by
  obtain ⟨A, c, e, -, -, -, h4⟩ := h
  obtain ⟨n', c', e2, h0⟩ := hk
  rw [e] at e2
  injection e2 with e2 e3 e4
  obtain ⟨g, cur, e5, hh, -⟩ := h4 (by omega)
  rw [e2] at e5
  injection e5 with e5
  injection e5 with e5
  subst e5
  exact ⟨cur, hh⟩
theorem KeepT.but {W W' : World} {l : List (Nat × TypeId × Array Value)} {r : Nat → Prop} (h : KeepT W l) (hb : But r W W') (hr : ∀ k, r k → ∃ cur, W.heap[k]? = some (.cells cur 5 (0, 0))) (hT : l.all (fun x => !decide (x.2.1 = 5)) = true) : KeepT W' l := fun i x hx => by
  have hB := h i x hx
  refine (hb.block _ hB.lt (fun hrk => ?_)).trans hB
  obtain ⟨cur, hc⟩ := hr _ hrk
  have ht := List.all_eq_true.1 hT x (List.mem_of_getElem? hx)
  unfold Blk at hB
  rw [hc] at hB
  injection hB with hB
  injection hB with _ hB
  simp [hB] at ht

theorem rsameY (a b c d : Value) (P Q : List Nat) (w : World) (h : Itn w a b P Q) (k : Itn w c d P Q) :
    Calls Tryz.prog 12 #[.agg #[a, b], .agg #[c, d]] w (RetVal (.bool true) w) := by
  have := rsame_any a b c d P Q P Q w h k
  simpa using this

/-- The row that Of tells, an error with no row. -/
theorem of_mayE {ok1 ok2 : Bool} {s t x y : Nat} {d E : Int} (hE : E = ofE ok1 ok2 y d) (h2 : ok2 = true → 0 < y) {P Q : List Nat} (hP : P = if E = 0 then ofP s t x y d.toNat else []) (hQ : Q = if E = 0 then ofQ s t x y d.toNat else []) : MayE P Q := by
  by_cases h : E = 0
  · rw [if_pos h] at hP hQ
    have hz := hE.symm.trans h
    have hm : mayE ok1 ok2 d = 0 := by
      unfold ofE at hz
      by_cases hm : mayE ok1 ok2 d = 0
      · exact hm
      · rw [if_neg hm] at hz; exact absurd hz hm
    obtain ⟨o1, o2, d1, d2⟩ := mayE_ok hm
    have hn : orbN y d.toNat ≤ 4096 := by
      unfold ofE at hz
      rw [if_pos hm] at hz
      by_cases hn : 4096 < orbN y d.toNat
      · rw [if_pos hn] at hz; cases hz
      · omega
    rw [hP, hQ]
    exact .inl (of_may (by omega) (by omega) (h2 o2) hn)
  · rw [if_neg h] at hP hQ
    exact .inr ⟨hP, hQ⟩


set_option maxRecDepth 100000 in
set_option maxHeartbeats 8000000 in
/-- filigreelaw22.ItinOf -/
theorem itinOf_any (n1 : Bool) (a1 d1 : ByteArray) (n2 : Bool) (a2 d2 : ByteArray) (d : Int) (w : World)
    (z1 : a1.size ≤ 9223372036854775807) (y1 : d1.size ≤ 9223372036854775807) (z2 : a2.size ≤ 9223372036854775807) (y2 : d2.size ≤ 9223372036854775807) (_ : (Lit.int .i64 d).wf = true) :
    Calls Tryz.prog 3 #[.agg #[.bool n1, .string a1, .string d1], .agg #[.bool n2, .string a2, .string d2], .int .i64 d] w (RetVal (.bool true) w) := by
  obtain ⟨s, hs⟩ : ∃ s, s = be (sl a1) := ⟨_, rfl⟩
  obtain ⟨t, ht⟩ : ∃ s, s = be (sl d1) := ⟨_, rfl⟩
  obtain ⟨x, hx⟩ : ∃ s, s = be (sl a2) := ⟨_, rfl⟩
  obtain ⟨y, hy⟩ : ∃ s, s = be (sl d2) := ⟨_, rfl⟩
  obtain ⟨o1, ho1⟩ : ∃ b, b = okA n1 a1 d1 := ⟨_, rfl⟩
  obtain ⟨o2, ho2⟩ : ∃ b, b = okA n2 a2 d2 := ⟨_, rfl⟩
  obtain ⟨E, hE⟩ : ∃ E, E = ofE o1 o2 y d := ⟨_, rfl⟩
  obtain ⟨P, hP⟩ : ∃ P, P = if E = 0 then ofP s t x y d.toNat else [] := ⟨_, rfl⟩
  obtain ⟨Q, hQ⟩ : ∃ Q, Q = if E = 0 then ofQ s t x y d.toNat else [] := ⟨_, rfl⟩
  obtain ⟨Ek, hEk⟩ : ∃ E, E = ofE o2 o2 y d := ⟨_, rfl⟩
  obtain ⟨Pk, hPk⟩ : ∃ P, P = if Ek = 0 then ofP x y x y d.toNat else [] := ⟨_, rfl⟩
  obtain ⟨Qk, hQk⟩ : ∃ Q, Q = if Ek = 0 then ofQ x y x y d.toNat else [] := ⟨_, rfl⟩
  obtain ⟨c, hc⟩ : ∃ c, c = mayE o1 o2 d := ⟨_, rfl⟩
  obtain ⟨ck, hck⟩ : ∃ c, c = mayE o2 o2 d := ⟨_, rfl⟩
  obtain ⟨u, hu⟩ : ∃ u, u = if c = 0 then symV s t x y d.toNat else 0 := ⟨_, rfl⟩
  have hy0 : o2 = true → 0 < y := fun h => by
    obtain ⟨-, -, -, -, h1, -⟩ := okA_spec (ho2.symm.trans h)
    rw [hy]; omega
  have mS := of_mayE hE hy0 hP hQ
  have mK := of_mayE hEk hy0 hPk hQk
  have hOf := Lib.hid (fun W => iOf_any n1 a1 d1 n2 a2 d2 d W z1 y1 z2 y2 E (by rw [hE, ho1, ho2, hy]) P Q (by rw [hP, hs, ht, hx, hy]) (by rw [hQ, hs, ht, hx, hy]))
  have hKn := Lib.hid (fun W => iKnead_any n2 a2 d2 d W z2 y2 Ek (by rw [hEk, ho2, hy]) Pk Qk (by rw [hPk, hx, hy]) (by rw [hQk, hx, hy]))
  have hC1 : Hid (∀ W, Calls Tryz.prog 9 #[.agg #[.bool n1, .string a1, .string d1], .agg #[.bool n2, .string a2, .string d2], .int .i64 d] W (RetVal (.int .i64 c) W)) := Lib.hid (fun W => by
    have := code_any n1 a1 d1 n2 a2 d2 d W z1 y1 z2 y2
    rw [← ho1, ← ho2, ← hc] at this
    exact this)
  have hC2 : Hid (∀ W, Calls Tryz.prog 9 #[.agg #[.bool n2, .string a2, .string d2], .agg #[.bool n2, .string a2, .string d2], .int .i64 d] W (RetVal (.int .i64 ck) W)) := Lib.hid (fun W => by
    have := code_any n2 a2 d2 n2 a2 d2 d W z2 y2 z2 y2
    rw [← ho2, ← hck] at this
    exact this)
  have hSy : Hid (∀ W, Calls Tryz.prog 6 #[.agg #[.bool n1, .string a1, .string d1], .agg #[.bool n2, .string a2, .string d2], .int .i64 d] W (RetVal (.tuple #[.int .u8 (u : Int), .int .i64 c]) W)) := Lib.hid (fun W => by
    have := iSymbol_any n1 a1 d1 n2 a2 d2 d W z1 y1 z2 y2
    have e : symbolV n1 a1 d1 n2 a2 d2 d = .tuple #[.int .u8 (u : Int), .int .i64 c] := by
      unfold symbolV
      rw [← ho1, ← ho2, ← hc, hu]
      by_cases h : c = 0
      · rw [if_pos h, if_pos h, h, hs, ht, hx, hy]
      · rw [if_neg h, if_neg h]; rfl
    rw [e] at this
    exact this)
  obtain ⟨x1, y1', hv1, hq1⟩ := smallV_form n1 a1 d1
  obtain ⟨x2, y2', hv2, hq2⟩ := smallV_form n2 a2 d2
  have hR1 : Hid (∀ W, Calls Tryz.prog 10 #[.agg #[.bool n1, .string a1, .string d1]] W (RetVal (.tuple #[.agg #[.int .u64 (x1 : Int), .int .u64 (y1' : Int)], .bool o1]) W)) := Lib.hid (fun W => by
    have := rof_any n1 a1 d1 W z1 y1
    rw [hv1, ← ho1] at this
    exact this)
  have hR2 : Hid (∀ W, Calls Tryz.prog 10 #[.agg #[.bool n2, .string a2, .string d2]] W (RetVal (.tuple #[.agg #[.int .u64 (x2 : Int), .int .u64 (y2' : Int)], .bool o2]) W)) := Lib.hid (fun W => by
    have := rof_any n2 a2 d2 W z2 y2
    rw [hv2, ← ho2] at this
    exact this)

  have hBW : Below w.heap.size w ((w.alloc (.cells #[.bool n1, .string a1, .string d1] 24)).alloc (.cells #[.bool n2, .string a2, .string d2] 24)) := ((Below.refl _ w).alloc (Nat.le_refl _) _).alloc (by simp) _
  have ka := (Blk.new w 24 #[.bool n1, .string a1, .string d1]).alloc (.cells #[.bool n2, .string a2, .string d2] 24)
  have kb := Blk.new (w.alloc (.cells #[.bool n1, .string a1, .string d1] 24)) 24 #[.bool n2, .string a2, .string d2]
  rw [World.size_alloc] at kb
  have K := Lib.hid ((KeepT.one ka).snoc kb)
  have hB := Lib.hid hBW
  replace hE := Lib.hid hE
  replace hP := Lib.hid hP
  replace hQ := Lib.hid hQ
  replace hEk := Lib.hid hEk
  replace hPk := Lib.hid hPk
  replace hQk := Lib.hid hQk
  replace hc := Lib.hid hc
  replace hck := Lib.hid hck
  replace hu := Lib.hid hu
  replace ho1 := Lib.hid ho1
  replace ho2 := Lib.hid ho2
  replace hq1 := Lib.hid hq1
  replace hq2 := Lib.hid hq2
  replace mS := Lib.hid mS
  replace mK := Lib.hid mK
  replace hs := Lib.hid hs
  replace ht := Lib.hid ht
  replace hx := Lib.hid hx
  replace hy := Lib.hid hy
  clear hBW ka kb hv1 hv2 hy0 z1 y1 z2 y2
  go_enter Tryz.func3, Tryz.ntmps3
  go_wp2_with fail
  refine (hSy.out _).mono ?_
  rintro en w1 ⟨rfl, hb⟩
  replace hB := Lib.hid (hB.out.trans (hb.mono hB.out.size))
  replace K := Lib.hid ((K.out.below hb))
  clear hb hSy
  have aa0 : w1.cell? ⟨w.heap.size, 0, none⟩ = some (.bool n1) := (K.out.at_ 0 rfl).cell 0
  have aa1 : w1.cell? ⟨w.heap.size, 1, none⟩ = some (.string a1) := (K.out.at_ 0 rfl).cell 1
  have aa2 : w1.cell? ⟨w.heap.size, 2, none⟩ = some (.string d1) := (K.out.at_ 0 rfl).cell 2
  have bb0 : w1.cell? ⟨w.heap.size + 1, 0, none⟩ = some (.bool n2) := (K.out.at_ 1 rfl).cell 0
  have bb1 : w1.cell? ⟨w.heap.size + 1, 1, none⟩ = some (.string a2) := (K.out.at_ 1 rfl).cell 1
  have bb2 : w1.cell? ⟨w.heap.size + 1, 2, none⟩ = some (.string d2) := (K.out.at_ 1 rfl).cell 2
  go_wp2_with fail
  refine (hOf.out _).mono ?_
  rintro en w2 ⟨v1, v2, rfl, g1, g2, hb⟩
  have l1 := g1
  have l2 := g2
  obtain ⟨g1, S1, rfl⟩ := g1
  obtain ⟨g2, S2, rfl⟩ := g2
  have JS := Lib.hid ((Itn.of_pf g1 g2 mS.out).alloc (.cells #[.slice S1 P.length P.length, .slice S2 Q.length Q.length] 30))
  have SP1 := Lib.hid ((Sp.of_pc l1 (by have := mS.out.len; unfold maxLen; omega)).alloc (.cells #[.slice S1 P.length P.length, .slice S2 Q.length Q.length] 30))
  have SP2 := Lib.hid ((Sp.of_pc l2 (by have := mS.out.len; unfold maxLen; omega)).alloc (.cells #[.slice S1 P.length P.length, .slice S2 Q.length Q.length] 30))
  have hWr : Hid (∀ k, (WrB (.slice S1 P.length P.length) k ∨ WrB (.slice S2 Q.length Q.length) k) → w.heap.size ≤ k ∧ k < (w2.alloc (.cells #[.slice S1 P.length P.length, .slice S2 Q.length Q.length] 30)).heap.size) := Lib.hid (fun k hk => by
    have h1 : w1.heap.size ≤ k ∧ k < w2.heap.size := hk.elim (fun h => g1.wr (fun e => by rw [e]; rfl) h) (fun h => g2.wr (fun e => by rw [e]; rfl) h)
    have h2 := hB.out.size
    simp; omega)
  have hBn := hB.out.trans (hb.mono hB.out.size)
  replace hB := Lib.hid (hBn.alloc hBn.size (.cells #[.slice S1 P.length P.length, .slice S2 Q.length Q.length] 30))
  clear hBn
  replace K := Lib.hid ((K.out.below hb).alloc (.cells #[.slice S1 P.length P.length, .slice S2 Q.length Q.length] 30))
  replace K := Lib.hid (K.out.snoc (Blk.new w2 30 #[.slice S1 P.length P.length, .slice S2 Q.length Q.length]))
  clear aa0 aa1 aa2 bb0 bb1 bb2 hb l1 l2 g1 g2
  go_upto_region 3 with fail
  generalize hW : w2.alloc (.cells #[.slice S1 P.length P.length, .slice S2 Q.length Q.length] 30) = w3 at hB K JS SP1 SP2 hWr ⊢
  generalize hg : w2.heap.size = gs at K ⊢
  clear hW hg
  clear w2
  have hU := Lib.hid (Below.refl w3.heap.size w3)
  have aa0 : w3.cell? ⟨w.heap.size, 0, none⟩ = some (.bool n1) := (K.out.at_ 0 rfl).cell 0
  have aa1 : w3.cell? ⟨w.heap.size, 1, none⟩ = some (.string a1) := (K.out.at_ 0 rfl).cell 1
  have aa2 : w3.cell? ⟨w.heap.size, 2, none⟩ = some (.string d1) := (K.out.at_ 0 rfl).cell 2
  have bb0 : w3.cell? ⟨w.heap.size + 1, 0, none⟩ = some (.bool n2) := (K.out.at_ 1 rfl).cell 0
  have bb1 : w3.cell? ⟨w.heap.size + 1, 1, none⟩ = some (.string a2) := (K.out.at_ 1 rfl).cell 1
  have bb2 : w3.cell? ⟨w.heap.size + 1, 2, none⟩ = some (.string d2) := (K.out.at_ 1 rfl).cell 2
  go_wp2_with fail
  refine (hOf.out _).mono ?_
  rintro en w4 ⟨v1, v2, rfl, g1, g2, hb⟩
  obtain ⟨g1, T1, rfl⟩ := g1
  obtain ⟨g2, T2, rfl⟩ := g2
  have PT1 := Lib.hid (g1.alloc (.cells #[.slice T1 P.length P.length, .slice T2 Q.length Q.length] 30))
  have PT2 := Lib.hid (g2.alloc (.cells #[.slice T1 P.length P.length, .slice T2 Q.length Q.length] 30))
  have hBn := hB.out.trans (hb.mono hB.out.size)
  replace hB := Lib.hid (hBn.alloc hBn.size (.cells #[.slice T1 P.length P.length, .slice T2 Q.length Q.length] 30))
  clear hBn
  have hUn := hU.out.trans (hb.mono hU.out.size)
  replace hU := Lib.hid (hUn.alloc hUn.size (.cells #[.slice T1 P.length P.length, .slice T2 Q.length Q.length] 30))
  clear hUn
  replace K := Lib.hid ((K.out.below hb).alloc (.cells #[.slice T1 P.length P.length, .slice T2 Q.length Q.length] 30))
  replace JS := Lib.hid ((JS.out.below hb).alloc (.cells #[.slice T1 P.length P.length, .slice T2 Q.length Q.length] 30))
  replace SP1 := Lib.hid ((SP1.out.below hb).alloc (.cells #[.slice T1 P.length P.length, .slice T2 Q.length Q.length] 30))
  replace SP2 := Lib.hid ((SP2.out.below hb).alloc (.cells #[.slice T1 P.length P.length, .slice T2 Q.length Q.length] 30))
  replace K := Lib.hid (K.out.snoc (Blk.new w4 30 #[.slice T1 P.length P.length, .slice T2 Q.length Q.length]))
  clear aa0 aa1 aa2 bb0 bb1 bb2 hb g1 g2 hOf
  go_upto_region 4 with fail
  generalize hW : w4.alloc (.cells #[.slice T1 P.length P.length, .slice T2 Q.length Q.length] 30) = w5 at hB hU K JS SP1 SP2 PT1 PT2  ⊢
  generalize hg : w4.heap.size = gt at K ⊢
  clear hW hg
  clear w4
  have bb0 : w5.cell? ⟨w.heap.size + 1, 0, none⟩ = some (.bool n2) := (K.out.at_ 1 rfl).cell 0
  have bb1 : w5.cell? ⟨w.heap.size + 1, 1, none⟩ = some (.string a2) := (K.out.at_ 1 rfl).cell 1
  have bb2 : w5.cell? ⟨w.heap.size + 1, 2, none⟩ = some (.string d2) := (K.out.at_ 1 rfl).cell 2
  go_wp2_with fail
  refine (hKn.out _).mono ?_
  rintro en w6 ⟨v1, v2, rfl, g1, g2, hb⟩
  obtain ⟨g1, U1, rfl⟩ := g1
  obtain ⟨g2, U2, rfl⟩ := g2
  have JK := Lib.hid ((Itn.of_pf g1 g2 mK.out).alloc (.cells #[.slice U1 Pk.length Pk.length, .slice U2 Qk.length Qk.length] 30))
  have hBn := hB.out.trans (hb.mono hB.out.size)
  replace hB := Lib.hid (hBn.alloc hBn.size (.cells #[.slice U1 Pk.length Pk.length, .slice U2 Qk.length Qk.length] 30))
  clear hBn
  have hUn := hU.out.trans (hb.mono hU.out.size)
  replace hU := Lib.hid (hUn.alloc hUn.size (.cells #[.slice U1 Pk.length Pk.length, .slice U2 Qk.length Qk.length] 30))
  clear hUn
  replace K := Lib.hid ((K.out.below hb).alloc (.cells #[.slice U1 Pk.length Pk.length, .slice U2 Qk.length Qk.length] 30))
  replace JS := Lib.hid ((JS.out.below hb).alloc (.cells #[.slice U1 Pk.length Pk.length, .slice U2 Qk.length Qk.length] 30))
  replace SP1 := Lib.hid ((SP1.out.below hb).alloc (.cells #[.slice U1 Pk.length Pk.length, .slice U2 Qk.length Qk.length] 30))
  replace SP2 := Lib.hid ((SP2.out.below hb).alloc (.cells #[.slice U1 Pk.length Pk.length, .slice U2 Qk.length Qk.length] 30))
  replace PT1 := Lib.hid ((PT1.out.below hb).alloc (.cells #[.slice U1 Pk.length Pk.length, .slice U2 Qk.length Qk.length] 30))
  replace PT2 := Lib.hid ((PT2.out.below hb).alloc (.cells #[.slice U1 Pk.length Pk.length, .slice U2 Qk.length Qk.length] 30))
  replace K := Lib.hid (K.out.snoc (Blk.new w6 30 #[.slice U1 Pk.length Pk.length, .slice U2 Qk.length Qk.length]))
  clear bb0 bb1 bb2 hb g1 g2 hKn
  go_upto_region 5 with fail
  generalize hW : w6.alloc (.cells #[.slice U1 Pk.length Pk.length, .slice U2 Qk.length Qk.length] 30) = w7 at hB hU K JS SP1 SP2 PT1 PT2 JK  ⊢
  generalize hg : w6.heap.size = gk at K ⊢
  clear hW hg
  clear w6
  have aa0 : w7.cell? ⟨w.heap.size, 0, none⟩ = some (.bool n1) := (K.out.at_ 0 rfl).cell 0
  have aa1 : w7.cell? ⟨w.heap.size, 1, none⟩ = some (.string a1) := (K.out.at_ 0 rfl).cell 1
  have aa2 : w7.cell? ⟨w.heap.size, 2, none⟩ = some (.string d1) := (K.out.at_ 0 rfl).cell 2
  have bb0 : w7.cell? ⟨w.heap.size + 1, 0, none⟩ = some (.bool n2) := (K.out.at_ 1 rfl).cell 0
  have bb1 : w7.cell? ⟨w.heap.size + 1, 1, none⟩ = some (.string a2) := (K.out.at_ 1 rfl).cell 1
  have bb2 : w7.cell? ⟨w.heap.size + 1, 2, none⟩ = some (.string d2) := (K.out.at_ 1 rfl).cell 2
  go_wp2_with fail
  refine (hC1.out _).mono ?_
  rintro en w8 ⟨rfl, hb⟩
  replace hB := Lib.hid (hB.out.trans (hb.mono hB.out.size))
  replace hU := Lib.hid (hU.out.trans (hb.mono hU.out.size))
  replace K := Lib.hid ((K.out.below hb))
  replace JS := Lib.hid ((JS.out.below hb))
  replace SP1 := Lib.hid ((SP1.out.below hb))
  replace SP2 := Lib.hid ((SP2.out.below hb))
  replace PT1 := Lib.hid ((PT1.out.below hb))
  replace PT2 := Lib.hid ((PT2.out.below hb))
  replace JK := Lib.hid ((JK.out.below hb))
  clear aa0 aa1 aa2 bb0 bb1 bb2 hb hC1
  have aa0 : w8.cell? ⟨w.heap.size, 0, none⟩ = some (.bool n1) := (K.out.at_ 0 rfl).cell 0
  have aa1 : w8.cell? ⟨w.heap.size, 1, none⟩ = some (.string a1) := (K.out.at_ 0 rfl).cell 1
  have aa2 : w8.cell? ⟨w.heap.size, 2, none⟩ = some (.string d1) := (K.out.at_ 0 rfl).cell 2
  go_wp2_with fail
  refine (hR1.out _).mono ?_
  rintro en w9 ⟨rfl, hb⟩
  have hBn := hB.out.trans (hb.mono hB.out.size)
  replace hB := Lib.hid (hBn.alloc hBn.size (.cells #[.int .u64 (x1 : Int), .int .u64 (y1' : Int)] 37))
  clear hBn
  have hUn := hU.out.trans (hb.mono hU.out.size)
  replace hU := Lib.hid (hUn.alloc hUn.size (.cells #[.int .u64 (x1 : Int), .int .u64 (y1' : Int)] 37))
  clear hUn
  replace K := Lib.hid ((K.out.below hb).alloc (.cells #[.int .u64 (x1 : Int), .int .u64 (y1' : Int)] 37))
  replace JS := Lib.hid ((JS.out.below hb).alloc (.cells #[.int .u64 (x1 : Int), .int .u64 (y1' : Int)] 37))
  replace SP1 := Lib.hid ((SP1.out.below hb).alloc (.cells #[.int .u64 (x1 : Int), .int .u64 (y1' : Int)] 37))
  replace SP2 := Lib.hid ((SP2.out.below hb).alloc (.cells #[.int .u64 (x1 : Int), .int .u64 (y1' : Int)] 37))
  replace PT1 := Lib.hid ((PT1.out.below hb).alloc (.cells #[.int .u64 (x1 : Int), .int .u64 (y1' : Int)] 37))
  replace PT2 := Lib.hid ((PT2.out.below hb).alloc (.cells #[.int .u64 (x1 : Int), .int .u64 (y1' : Int)] 37))
  replace JK := Lib.hid ((JK.out.below hb).alloc (.cells #[.int .u64 (x1 : Int), .int .u64 (y1' : Int)] 37))
  replace K := Lib.hid (K.out.snoc (Blk.new w9 37 #[.int .u64 (x1 : Int), .int .u64 (y1' : Int)]))
  clear aa0 aa1 aa2 hb hR1
  go_upto_region 7 with fail
  generalize hW : w9.alloc (.cells #[.int .u64 (x1 : Int), .int .u64 (y1' : Int)] 37) = w10 at hB hU K JS SP1 SP2 PT1 PT2 JK  ⊢
  generalize hg : w9.heap.size = ga at K ⊢
  clear hW hg
  clear w9
  have bb0 : w10.cell? ⟨w.heap.size + 1, 0, none⟩ = some (.bool n2) := (K.out.at_ 1 rfl).cell 0
  have bb1 : w10.cell? ⟨w.heap.size + 1, 1, none⟩ = some (.string a2) := (K.out.at_ 1 rfl).cell 1
  have bb2 : w10.cell? ⟨w.heap.size + 1, 2, none⟩ = some (.string d2) := (K.out.at_ 1 rfl).cell 2
  go_wp2_with fail
  refine (hR2.out _).mono ?_
  rintro en w11 ⟨rfl, hb⟩
  have hBn := hB.out.trans (hb.mono hB.out.size)
  replace hB := Lib.hid (hBn.alloc hBn.size (.cells #[.int .u64 (x2 : Int), .int .u64 (y2' : Int)] 37))
  clear hBn
  have hUn := hU.out.trans (hb.mono hU.out.size)
  replace hU := Lib.hid (hUn.alloc hUn.size (.cells #[.int .u64 (x2 : Int), .int .u64 (y2' : Int)] 37))
  clear hUn
  replace K := Lib.hid ((K.out.below hb).alloc (.cells #[.int .u64 (x2 : Int), .int .u64 (y2' : Int)] 37))
  replace JS := Lib.hid ((JS.out.below hb).alloc (.cells #[.int .u64 (x2 : Int), .int .u64 (y2' : Int)] 37))
  replace SP1 := Lib.hid ((SP1.out.below hb).alloc (.cells #[.int .u64 (x2 : Int), .int .u64 (y2' : Int)] 37))
  replace SP2 := Lib.hid ((SP2.out.below hb).alloc (.cells #[.int .u64 (x2 : Int), .int .u64 (y2' : Int)] 37))
  replace PT1 := Lib.hid ((PT1.out.below hb).alloc (.cells #[.int .u64 (x2 : Int), .int .u64 (y2' : Int)] 37))
  replace PT2 := Lib.hid ((PT2.out.below hb).alloc (.cells #[.int .u64 (x2 : Int), .int .u64 (y2' : Int)] 37))
  replace JK := Lib.hid ((JK.out.below hb).alloc (.cells #[.int .u64 (x2 : Int), .int .u64 (y2' : Int)] 37))
  replace K := Lib.hid (K.out.snoc (Blk.new w11 37 #[.int .u64 (x2 : Int), .int .u64 (y2' : Int)]))
  clear bb0 bb1 bb2 hb hR2
  go_upto_region 8 with fail
  generalize hW : w11.alloc (.cells #[.int .u64 (x2 : Int), .int .u64 (y2' : Int)] 37) = w12 at hB hU K JS SP1 SP2 PT1 PT2 JK  ⊢
  generalize hg : w11.heap.size = gb at K ⊢
  clear hW hg
  clear w11
  replace hB := Lib.hid (hB.out.alloc hB.out.size (.cells #[.slice none 0 0, .slice none 0 0] 30))
  replace hU := Lib.hid (hU.out.alloc hU.out.size (.cells #[.slice none 0 0, .slice none 0 0] 30))
  replace K := Lib.hid (K.out.alloc (.cells #[.slice none 0 0, .slice none 0 0] 30))
  replace JS := Lib.hid (JS.out.alloc (.cells #[.slice none 0 0, .slice none 0 0] 30))
  replace SP1 := Lib.hid (SP1.out.alloc (.cells #[.slice none 0 0, .slice none 0 0] 30))
  replace SP2 := Lib.hid (SP2.out.alloc (.cells #[.slice none 0 0, .slice none 0 0] 30))
  replace PT1 := Lib.hid (PT1.out.alloc (.cells #[.slice none 0 0, .slice none 0 0] 30))
  replace PT2 := Lib.hid (PT2.out.alloc (.cells #[.slice none 0 0, .slice none 0 0] 30))
  replace JK := Lib.hid (JK.out.alloc (.cells #[.slice none 0 0, .slice none 0 0] 30))
  replace K := Lib.hid (K.out.snoc (Blk.new w12 30 #[.slice none 0 0, .slice none 0 0]))
  go_upto_region 9 with fail
  generalize hW : w12.alloc (.cells #[.slice none 0 0, .slice none 0 0] 30) = w13 at hB hU K JS SP1 SP2 PT1 PT2 JK  ⊢
  generalize hg : w12.heap.size = gz at K ⊢
  clear hW hg
  clear w12
  have bb0 : w13.cell? ⟨w.heap.size + 1, 0, none⟩ = some (.bool n2) := (K.out.at_ 1 rfl).cell 0
  have bb1 : w13.cell? ⟨w.heap.size + 1, 1, none⟩ = some (.string a2) := (K.out.at_ 1 rfl).cell 1
  have bb2 : w13.cell? ⟨w.heap.size + 1, 2, none⟩ = some (.string d2) := (K.out.at_ 1 rfl).cell 2
  go_wp2_with fail
  refine (hC2.out _).mono ?_
  rintro en w14 ⟨rfl, hb⟩
  replace hB := Lib.hid (hB.out.trans (hb.mono hB.out.size))
  replace hU := Lib.hid (hU.out.trans (hb.mono hU.out.size))
  replace K := Lib.hid ((K.out.below hb))
  replace JS := Lib.hid ((JS.out.below hb))
  replace SP1 := Lib.hid ((SP1.out.below hb))
  replace SP2 := Lib.hid ((SP2.out.below hb))
  replace PT1 := Lib.hid ((PT1.out.below hb))
  replace PT2 := Lib.hid ((PT2.out.below hb))
  replace JK := Lib.hid ((JK.out.below hb))
  clear bb0 bb1 bb2 hb hC2
  have hlk : mayE o2 o2 d ≠ 0 → c ≠ 0 := fun h h2 => by
    obtain ⟨-, b2, b3, b4⟩ := mayE_ok (hc.out.symm.trans h2)
    exact h (by rw [b2]; simp [mayE, roundB_iff.2 ⟨b3, b4⟩])
  by_cases hk0 : ck = 0
  case neg =>
    have hcn : c ≠ 0 := hlk (by rw [← hck.out]; exact hk0)
    have hEkc : Ek = ck := by rw [hEk.out, ofE, ← hck.out, if_neg hk0]
    have hEkn : ¬ Ek = 0 := by rw [hEkc]; exact hk0
    have hPn : Pk = [] := by rw [hPk.out, if_neg hEkn]
    have hQn : Qk = [] := by rw [hQk.out, if_neg hEkn]
    have hk1 : (ck == 0) = false := by rw [beq_eq_false_iff_ne]; exact hk0
    have hk2 : (Ek != ck) = false := by rw [hEkc]; exact bne_self_eq_false _
    clear hEk hPk hQk hEkn hEkc hk0 hlk
    subst hPn hQn
    have kk0 : w14.cell? ⟨gk, 0, none⟩ = some (.slice U1 ([] : List Nat).length ([] : List Nat).length) := (K.out.at_ 4 rfl).cell 0
    have kk1 : w14.cell? ⟨gk, 1, none⟩ = some (.slice U2 ([] : List Nat).length ([] : List Nat).length) := (K.out.at_ 4 rfl).cell 1
    have zz0 : w14.cell? ⟨gz, 0, none⟩ = some (.slice none 0 0) := (K.out.at_ 7 rfl).cell 0
    have zz1 : w14.cell? ⟨gz, 1, none⟩ = some (.slice none 0 0) := (K.out.at_ 7 rfl).cell 1
    go_wp2_with fail
    refine (rsameY _ _ _ _ [] [] _ JK.out (Itn.none_ _)).mono ?_
    rintro en w15 ⟨rfl, hb⟩
    replace hB := Lib.hid (hB.out.trans (hb.mono hB.out.size))
    replace hU := Lib.hid (hU.out.trans (hb.mono hU.out.size))
    replace K := Lib.hid ((K.out.below hb))
    replace JS := Lib.hid ((JS.out.below hb))
    replace SP1 := Lib.hid ((SP1.out.below hb))
    replace SP2 := Lib.hid ((SP2.out.below hb))
    replace PT1 := Lib.hid ((PT1.out.below hb))
    replace PT2 := Lib.hid ((PT2.out.below hb))
    replace JK := Lib.hid ((JK.out.below hb))
    clear kk0 kk1 zz0 zz1 hb
    have hEc : E = c := by rw [hE.out, ofE, ← hc.out, if_neg hcn]
    have hEn : ¬ E = 0 := by rw [hEc]; exact hcn
    have hPn : P = [] := by rw [hP.out, if_neg hEn]
    have hQn : Q = [] := by rw [hQ.out, if_neg hEn]
    have hun : u = 0 := by rw [hu.out, if_neg hcn]
    have x1 : (c != 0) = true := by rw [bne_iff_ne]; exact hcn
    have x2 : (E == c) = true := by rw [beq_iff_eq]; exact hEc
    have x3 : (c == c) = true := beq_self_eq_true _
    clear hE hP hQ hu hEn hEc
    subst hPn hQn hun
    have ss0 : w15.cell? ⟨gs, 0, none⟩ = some (.slice S1 ([] : List Nat).length ([] : List Nat).length) := (K.out.at_ 2 rfl).cell 0
    have ss1 : w15.cell? ⟨gs, 1, none⟩ = some (.slice S2 ([] : List Nat).length ([] : List Nat).length) := (K.out.at_ 2 rfl).cell 1
    have zz0 : w15.cell? ⟨gz, 0, none⟩ = some (.slice none 0 0) := (K.out.at_ 7 rfl).cell 0
    have zz1 : w15.cell? ⟨gz, 1, none⟩ = some (.slice none 0 0) := (K.out.at_ 7 rfl).cell 1
    clear PT1 PT2 SP1 SP2 hcn
    go_wp2_with fail
    refine (rsameY _ _ _ _ [] [] _ JS.out (Itn.none_ _)).mono ?_
    rintro en wt1 ⟨rfl, hb⟩
    replace hB := Lib.hid (hB.out.trans (hb.mono hB.out.size))
    clear ss0 ss1 zz0 zz1 hb
    go_wp2_with fail
    refine (lives_any _).mono ?_
    rintro en wu1 ⟨rfl, hb⟩
    replace hB := Lib.hid (hB.out.trans (hb.mono hB.out.size))
    clear hb
    go_wp2_with fail
    go_ret
    exact ⟨rfl, hB.out⟩
  case pos =>
    have hmk := hck.out.symm.trans hk0
    obtain ⟨b2, -, b3, b4⟩ := mayE_ok hmk
    obtain ⟨dn, rfl⟩ : ∃ dn : Nat, d = (dn : Int) := ⟨d.toNat, by omega⟩
    have ok2 : okA n2 a2 d2 = true := by rw [← ho2.out]; exact b2
    obtain ⟨-, -, -, hgc, hxy, hy9⟩ := okA_spec ok2
    rw [← hx.out, ← hy.out] at hgc hxy
    rw [← hy.out] at hy9
    obtain ⟨q1, q2, -⟩ := hq2.out ok2
    rw [← hx.out] at q1
    rw [← hy.out] at q2
    have hd1 : 2 ≤ dn := by omega
    have hd2 : dn ≤ 64 := by omega
    have hOk := Lib.hid (fun W => rOf_any x y x y dn W hxy hy9 hxy hy9 hgc hd1 hd2 Ek (by rw [hEk.out, ofE, ← hck.out, if_pos hk0, Int.toNat_natCast]) Pk Qk (by rw [hPk.out, Int.toNat_natCast]) (by rw [hQk.out, Int.toNat_natCast]))
    have hk1 : (ck == 0) = true := by rw [beq_iff_eq]; exact hk0
    have hk2 : (Ek != Ek) = false := bne_self_eq_false _
    replace hgc := Lib.hid hgc
    replace hxy := Lib.hid hxy
    replace hy9 := Lib.hid hy9
    replace hd1 := Lib.hid hd1
    replace hd2 := Lib.hid hd2
    clear hlk hmk b2 b3 b4 ok2 hEk hPk hQk
    subst q1 q2
    have qq0 : w14.cell? ⟨gb, 0, none⟩ = some (.int .u64 (x2 : Int)) := (K.out.at_ 6 rfl).cell 0
    have qq1 : w14.cell? ⟨gb, 1, none⟩ = some (.int .u64 (y2' : Int)) := (K.out.at_ 6 rfl).cell 1
    replace hk0 := Lib.hid hk0
    go_wp2_with fail
    refine (hOk.out _).mono ?_
    rintro en w15 ⟨v1, v2, rfl, g1, g2, hb⟩
    obtain ⟨X1, X3, rfl, -⟩ := g1.form
    obtain ⟨X2, X4, rfl, -⟩ := g2.form
    have JW := Lib.hid ((Itn.of_pf g1 g2 mK.out).alloc (.cells #[.slice X1 Pk.length X3, .slice X2 Qk.length X4] 30))
    have hBn := hB.out.trans (hb.mono hB.out.size)
    replace hB := Lib.hid (hBn.alloc hBn.size (.cells #[.slice X1 Pk.length X3, .slice X2 Qk.length X4] 30))
    clear hBn
    have hUn := hU.out.trans (hb.mono hU.out.size)
    replace hU := Lib.hid (hUn.alloc hUn.size (.cells #[.slice X1 Pk.length X3, .slice X2 Qk.length X4] 30))
    clear hUn
    replace K := Lib.hid ((K.out.below hb).alloc (.cells #[.slice X1 Pk.length X3, .slice X2 Qk.length X4] 30))
    replace JS := Lib.hid ((JS.out.below hb).alloc (.cells #[.slice X1 Pk.length X3, .slice X2 Qk.length X4] 30))
    replace SP1 := Lib.hid ((SP1.out.below hb).alloc (.cells #[.slice X1 Pk.length X3, .slice X2 Qk.length X4] 30))
    replace SP2 := Lib.hid ((SP2.out.below hb).alloc (.cells #[.slice X1 Pk.length X3, .slice X2 Qk.length X4] 30))
    replace PT1 := Lib.hid ((PT1.out.below hb).alloc (.cells #[.slice X1 Pk.length X3, .slice X2 Qk.length X4] 30))
    replace PT2 := Lib.hid ((PT2.out.below hb).alloc (.cells #[.slice X1 Pk.length X3, .slice X2 Qk.length X4] 30))
    replace JK := Lib.hid ((JK.out.below hb).alloc (.cells #[.slice X1 Pk.length X3, .slice X2 Qk.length X4] 30))
    replace K := Lib.hid (K.out.snoc (Blk.new w15 30 #[.slice X1 Pk.length X3, .slice X2 Qk.length X4]))
    clear qq0 qq1 hb g1 g2 hOk
    go_upto_region 12 with fail
    generalize hW : w15.alloc (.cells #[.slice X1 Pk.length X3, .slice X2 Qk.length X4] 30) = w16 at hB hU K JS SP1 SP2 PT1 PT2 JK JW  ⊢
    generalize hg : w15.heap.size = gw at K ⊢
    clear hW hg
    clear w15
    have kk0 : w16.cell? ⟨gk, 0, none⟩ = some (.slice U1 Pk.length Pk.length) := (K.out.at_ 4 rfl).cell 0
    have kk1 : w16.cell? ⟨gk, 1, none⟩ = some (.slice U2 Qk.length Qk.length) := (K.out.at_ 4 rfl).cell 1
    have ww0 : w16.cell? ⟨gw, 0, none⟩ = some (.slice X1 Pk.length X3) := (K.out.at_ 8 rfl).cell 0
    have ww1 : w16.cell? ⟨gw, 1, none⟩ = some (.slice X2 Qk.length X4) := (K.out.at_ 8 rfl).cell 1
    go_wp2_with fail
    refine (rsameY _ _ _ _ Pk Qk _ JK.out JW.out).mono ?_
    rintro en w17 ⟨rfl, hb⟩
    replace hB := Lib.hid (hB.out.trans (hb.mono hB.out.size))
    replace hU := Lib.hid (hU.out.trans (hb.mono hU.out.size))
    replace K := Lib.hid ((K.out.below hb))
    replace JS := Lib.hid ((JS.out.below hb))
    replace SP1 := Lib.hid ((SP1.out.below hb))
    replace SP2 := Lib.hid ((SP2.out.below hb))
    replace PT1 := Lib.hid ((PT1.out.below hb))
    replace PT2 := Lib.hid ((PT2.out.below hb))
    clear kk0 kk1 ww0 ww1 hb JK JW mK
    by_cases hcn : c ≠ 0
    case pos =>
      have hEc : E = c := by rw [hE.out, ofE, ← hc.out, if_neg hcn]
      have hEn : ¬ E = 0 := by rw [hEc]; exact hcn
      have hPn : P = [] := by rw [hP.out, if_neg hEn]
      have hQn : Q = [] := by rw [hQ.out, if_neg hEn]
      have hun : u = 0 := by rw [hu.out, if_neg hcn]
      have x1 : (c != 0) = true := by rw [bne_iff_ne]; exact hcn
      have x2 : (E == c) = true := by rw [beq_iff_eq]; exact hEc
      have x3 : (c == c) = true := beq_self_eq_true _
      clear hE hP hQ hu hEn hEc
      subst hPn hQn hun
      have ss0 : w17.cell? ⟨gs, 0, none⟩ = some (.slice S1 ([] : List Nat).length ([] : List Nat).length) := (K.out.at_ 2 rfl).cell 0
      have ss1 : w17.cell? ⟨gs, 1, none⟩ = some (.slice S2 ([] : List Nat).length ([] : List Nat).length) := (K.out.at_ 2 rfl).cell 1
      have zz0 : w17.cell? ⟨gz, 0, none⟩ = some (.slice none 0 0) := (K.out.at_ 7 rfl).cell 0
      have zz1 : w17.cell? ⟨gz, 1, none⟩ = some (.slice none 0 0) := (K.out.at_ 7 rfl).cell 1
      clear PT1 PT2 SP1 SP2 hcn
      go_wp2_with fail
      refine (rsameY _ _ _ _ [] [] _ JS.out (Itn.none_ _)).mono ?_
      rintro en wt2 ⟨rfl, hb⟩
      replace hB := Lib.hid (hB.out.trans (hb.mono hB.out.size))
      clear ss0 ss1 zz0 zz1 hb
      go_wp2_with fail
      refine (lives_any _).mono ?_
      rintro en wu2 ⟨rfl, hb⟩
      replace hB := Lib.hid (hB.out.trans (hb.mono hB.out.size))
      clear hb
      go_wp2_with fail
      go_ret
      exact ⟨rfl, hB.out⟩
    case neg =>
      have hc0 : c = 0 := Decidable.of_not_not hcn
      have hmk := hc.out.symm.trans hc0
      obtain ⟨b1, -, b3, b4⟩ := mayE_ok hmk
      have ok1 : okA n1 a1 d1 = true := by rw [← ho1.out]; exact b1
      obtain ⟨-, -, -, -, hst, ht9⟩ := okA_spec ok1
      rw [← hs.out, ← ht.out] at hst
      rw [← ht.out] at ht9
      obtain ⟨q1, q2, -⟩ := hq1.out ok1
      rw [← hs.out] at q1
      rw [← ht.out] at q2
      have hOs := Lib.hid (fun W => rOf_any s t x2 y2' dn W hst ht9 hxy.out hy9.out hgc.out hd1.out hd2.out E (by rw [hE.out, ofE, ← hc.out, if_pos hc0, Int.toNat_natCast]) P Q (by rw [hP.out, Int.toNat_natCast]) (by rw [hQ.out, Int.toNat_natCast]))
      have hSr := Lib.hid (fun W => rSymA_any s t x2 y2' dn W hst ht9 hxy.out hy9.out hd1.out hd2.out)
      have hue : u = symV s t x2 y2' dn := by rw [hu.out, if_pos hc0, Int.toNat_natCast]
      have xx1 : (c != 0) = false := by rw [hc0]; rfl
      have xx2 : (E != E) = false := bne_self_eq_false _
      have xx3 : ((u : Int) != (u : Int)) = false := bne_self_eq_false _
      rw [← hue] at hSr
      clear hE hP hQ hu hmk b1 b3 b4 ok1 hue hcn
      subst q1 q2
      replace hc0 := Lib.hid hc0
      replace hst := Lib.hid hst
      replace ht9 := Lib.hid ht9
      have pp0 : w17.cell? ⟨ga, 0, none⟩ = some (.int .u64 (x1 : Int)) := (K.out.at_ 5 rfl).cell 0
      have pp1 : w17.cell? ⟨ga, 1, none⟩ = some (.int .u64 (y1' : Int)) := (K.out.at_ 5 rfl).cell 1
      have qq0 : w17.cell? ⟨gb, 0, none⟩ = some (.int .u64 (x2 : Int)) := (K.out.at_ 6 rfl).cell 0
      have qq1 : w17.cell? ⟨gb, 1, none⟩ = some (.int .u64 (y2' : Int)) := (K.out.at_ 6 rfl).cell 1
      go_wp2_with fail
      refine (hOs.out _).mono ?_
      rintro en w18 ⟨v1, v2, rfl, g1, g2, hb⟩
      obtain ⟨Y1, Y3, rfl, -⟩ := g1.form
      obtain ⟨Y2, Y4, rfl, -⟩ := g2.form
      have hw18 : w3.heap.size ≤ w17.heap.size := hU.out.size
      have PV1 := Lib.hid ((g1.le hw18).alloc (.cells #[.slice Y1 P.length Y3, .slice Y2 Q.length Y4] 30))
      have PV2 := Lib.hid ((g2.le hw18).alloc (.cells #[.slice Y1 P.length Y3, .slice Y2 Q.length Y4] 30))
      have hBn := hB.out.trans (hb.mono hB.out.size)
      replace hB := Lib.hid (hBn.alloc hBn.size (.cells #[.slice Y1 P.length Y3, .slice Y2 Q.length Y4] 30))
      clear hBn
      have hUn := hU.out.trans (hb.mono hU.out.size)
      replace hU := Lib.hid (hUn.alloc hUn.size (.cells #[.slice Y1 P.length Y3, .slice Y2 Q.length Y4] 30))
      clear hUn
      replace K := Lib.hid ((K.out.below hb).alloc (.cells #[.slice Y1 P.length Y3, .slice Y2 Q.length Y4] 30))
      replace JS := Lib.hid ((JS.out.below hb).alloc (.cells #[.slice Y1 P.length Y3, .slice Y2 Q.length Y4] 30))
      replace SP1 := Lib.hid ((SP1.out.below hb).alloc (.cells #[.slice Y1 P.length Y3, .slice Y2 Q.length Y4] 30))
      replace SP2 := Lib.hid ((SP2.out.below hb).alloc (.cells #[.slice Y1 P.length Y3, .slice Y2 Q.length Y4] 30))
      replace PT1 := Lib.hid ((PT1.out.below hb).alloc (.cells #[.slice Y1 P.length Y3, .slice Y2 Q.length Y4] 30))
      replace PT2 := Lib.hid ((PT2.out.below hb).alloc (.cells #[.slice Y1 P.length Y3, .slice Y2 Q.length Y4] 30))
      replace K := Lib.hid (K.out.snoc (Blk.new w18 30 #[.slice Y1 P.length Y3, .slice Y2 Q.length Y4]))
      clear pp0 pp1 qq0 qq1 hb g1 g2 hOs hw18
      go_upto_region 19 with fail
      generalize hW : w18.alloc (.cells #[.slice Y1 P.length Y3, .slice Y2 Q.length Y4] 30) = w19 at hB hU K JS SP1 SP2 PT1 PT2 PV1 PV2  ⊢
      generalize hg : w18.heap.size = gv at K ⊢
      clear hW hg
      clear w18
      have pp0 : w19.cell? ⟨ga, 0, none⟩ = some (.int .u64 (x1 : Int)) := (K.out.at_ 5 rfl).cell 0
      have pp1 : w19.cell? ⟨ga, 1, none⟩ = some (.int .u64 (y1' : Int)) := (K.out.at_ 5 rfl).cell 1
      have qq0 : w19.cell? ⟨gb, 0, none⟩ = some (.int .u64 (x2 : Int)) := (K.out.at_ 6 rfl).cell 0
      have qq1 : w19.cell? ⟨gb, 1, none⟩ = some (.int .u64 (y2' : Int)) := (K.out.at_ 6 rfl).cell 1
      go_wp2_with fail
      refine (hSr.out _).mono ?_
      rintro en w20 ⟨rfl, hb⟩
      replace hB := Lib.hid (hB.out.trans (hb.mono hB.out.size))
      replace hU := Lib.hid (hU.out.trans (hb.mono hU.out.size))
      replace K := Lib.hid ((K.out.below hb))
      replace JS := Lib.hid ((JS.out.below hb))
      replace SP1 := Lib.hid ((SP1.out.below hb))
      replace SP2 := Lib.hid ((SP2.out.below hb))
      replace PT1 := Lib.hid ((PT1.out.below hb))
      replace PT2 := Lib.hid ((PT2.out.below hb))
      replace PV1 := Lib.hid ((PV1.out.below hb))
      replace PV2 := Lib.hid ((PV2.out.below hb))
      clear pp0 pp1 qq0 qq1 hb hSr
      have ss0 : w20.cell? ⟨gs, 0, none⟩ = some (.slice S1 P.length P.length) := (K.out.at_ 2 rfl).cell 0
      have ss1 : w20.cell? ⟨gs, 1, none⟩ = some (.slice S2 Q.length Q.length) := (K.out.at_ 2 rfl).cell 1
      have vv0 : w20.cell? ⟨gv, 0, none⟩ = some (.slice Y1 P.length Y3) := (K.out.at_ 9 rfl).cell 0
      have vv1 : w20.cell? ⟨gv, 1, none⟩ = some (.slice Y2 Q.length Y4) := (K.out.at_ 9 rfl).cell 1
      have JV := Lib.hid (Itn.of_pf PV1.out PV2.out mS.out)
      go_wp2_with fail
      refine (rsameY _ _ _ _ P Q _ JS.out JV.out).mono ?_
      rintro en w21 ⟨rfl, hb⟩
      replace hB := Lib.hid (hB.out.trans (hb.mono hB.out.size))
      replace hU := Lib.hid (hU.out.trans (hb.mono hU.out.size))
      replace K := Lib.hid ((K.out.below hb))
      replace SP1 := Lib.hid ((SP1.out.below hb))
      replace SP2 := Lib.hid ((SP2.out.below hb))
      replace PT1 := Lib.hid ((PT1.out.below hb))
      replace PT2 := Lib.hid ((PT2.out.below hb))
      replace PV1 := Lib.hid ((PV1.out.below hb))
      replace PV2 := Lib.hid ((PV2.out.below hb))
      clear ss0 ss1 vv0 vv1 hb JS JV
      have ss0 : w21.cell? ⟨gs, 0, none⟩ = some (.slice S1 P.length P.length) := (K.out.at_ 2 rfl).cell 0
      have ss1 : w21.cell? ⟨gs, 1, none⟩ = some (.slice S2 Q.length Q.length) := (K.out.at_ 2 rfl).cell 1
      have hl9 := mS.out.len
      have hl1 : P.length ≤ 140737488355000 := by omega
      have hl2 : Q.length ≤ 140737488355000 := by omega
      clear hl9
      go_wp2_with fail
      refine (spoil_any _ _ _ _ _ SP1.out SP2.out hl1 hl2).mono ?_
      rintro en w22 ⟨rfl, hbu⟩
      have K2 := Lib.hid (K.out.but hbu (fun k hk => hk.elim (fun h => SP1.out.wr h) (fun h => SP2.out.wr h)) (by first | rfl | decide))
      have JT := Lib.hid (Itn.of_pf (PT1.out.but hbu (fun k hk hr => by have := (hWr.out k hr).2; omega)) (PT2.out.but hbu (fun k hk hr => by have := (hWr.out k hr).2; omega)) mS.out)
      have JV := Lib.hid (Itn.of_pf (PV1.out.but hbu (fun k hk hr => by have := (hWr.out k hr).2; omega)) (PV2.out.but hbu (fun k hk hr => by have := (hWr.out k hr).2; omega)) mS.out)
      replace hB := Lib.hid (hB.out.trans (hbu.toBelow hB.out.size (fun k hk hr => by have := (hWr.out k hr).1; omega)))
      clear hbu K PT1 PT2 PV1 PV2 SP1 SP2
      replace K := K2
      clear K2
      clear ss0 ss1 
      have tt0 : w22.cell? ⟨gt, 0, none⟩ = some (.slice T1 P.length P.length) := (K.out.at_ 3 rfl).cell 0
      have tt1 : w22.cell? ⟨gt, 1, none⟩ = some (.slice T2 Q.length Q.length) := (K.out.at_ 3 rfl).cell 1
      have vv0 : w22.cell? ⟨gv, 0, none⟩ = some (.slice Y1 P.length Y3) := (K.out.at_ 9 rfl).cell 0
      have vv1 : w22.cell? ⟨gv, 1, none⟩ = some (.slice Y2 Q.length Y4) := (K.out.at_ 9 rfl).cell 1
      go_wp2_with fail
      refine (rsameY _ _ _ _ P Q _ JT.out JV.out).mono ?_
      rintro en w23 ⟨rfl, hb⟩
      replace hB := Lib.hid (hB.out.trans (hb.mono hB.out.size))
      clear tt0 tt1 vv0 vv1 hb JT JV K
      go_wp2_with fail
      refine (lives_any _).mono ?_
      rintro en w24 ⟨rfl, hb⟩
      replace hB := Lib.hid (hB.out.trans (hb.mono hB.out.size))
      clear hb
      go_wp2_with fail
      go_ret
      exact ⟨rfl, hB.out⟩
end Go.Proofs.YtbddlbhanpjdnaaGreatDoor
