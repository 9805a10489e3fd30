/- filigreelaw11.spoil: a text's parts are written over, and grown. -/
import Derived.Test.YtnaadajcehfmiaaGreatDoorLvN
namespace Go.Proofs.YtnaadajcehfmiaaGreatDoor
open Go.RowKit Go.Sort Go.Maps

/-- What has turned: what is new, and the blocks of these two. -/
structure SpO (B : Nat) (vN vL : Value) (w w' : World) : Prop where
  bl : Below B w w'
  block : ∀ k, k < w.heap.size → some k ≠ vN.ownBlock → some k ≠ vL.ownBlock → w'.heap[k]? = w.heap[k]?
section
variable {B : Nat} {vN vL : Value} {w w1 w2 : World}
theorem SpO.grown {row : Option Nat} (h : SpO B vN vL w w1) (hg : w1.grownBy w2 row) (hr : ∀ k, row = some k → vN.ownBlock = some k ∨ vL.ownBlock = some k ∨ w.heap.size ≤ k) (hB : ∀ k, row = some k → B ≤ k) (hs : B ≤ w.heap.size) : SpO B vN vL w w2 :=
  ⟨h.bl.trans ⟨hg.os, hg.tape, hg.output, hg.size, fun k hk => hg.block k (by have := h.bl.size; omega) (fun e => by have := hB k e.symm; omega)⟩,
   fun k hk h1 h2 => (hg.block k (by have := h.bl.size; omega) (fun e => by
     rcases hr k e.symm with h3 | h3 | h3
     · exact h1 h3.symm
     · exact h2 h3.symm
     · omega)).trans (h.block k hk h1 h2)⟩
theorem SpO.alloc (h : SpO B vN vL w w1) (o : Obj) (hs : B ≤ w.heap.size) : SpO B vN vL w (w1.alloc o) := h.grown (World.grownBy_alloc w1 o none) (fun k e => by cases e) (fun k e => by cases e) hs
theorem SpO.drew (h : SpO B vN vL w w1) : SpO B vN vL w w1.drew := ⟨h.bl.drew, fun k hk h1 h2 => h.block k hk h1 h2⟩
theorem SpO.drewN (h : SpO B vN vL w w1) (n : Nat) : SpO B vN vL w (w1.drewN n) := ⟨bl_drewN h.bl n, fun k hk h1 h2 => h.block k hk h1 h2⟩
end
/-- What a row holds at one place of it. -/
theorem row_at {w : World} {B g k n c : Nat} {e : TypeId} {xs : List Value} (h : w.ownsRow B e k (.slice (some ⟨g, 0, none⟩) n c) n xs) {i j : Nat} (hi : i < n) (hj : j < k) : (∃ u, w.cell? ⟨g, i * k + j, none⟩ = some u) ∧ w.frozen? ⟨g, i * k + j, none⟩ = false := by
  have hl := h.1
  have h1 : i * k + j < n * k := by
    have : (i + 1) * k ≤ n * k := Nat.mul_le_mul_right k hi
    rw [Nat.add_mul, Nat.one_mul] at this
    omega
  exact ⟨⟨xs[i * k + j]'(by rw [hl]; exact h1), by rw [World.ownsRow.cellAt h _ h1, List.getElem?_eq_getElem]⟩, World.ownsRow.frozenAt h _⟩
/-- The same, the box behind. -/
structure SpH (B : Nat) (vN vL : Value) (w : World) (g0 : Nat) (mp : Int) (uP uQ vP : Value) (p : Nat) (xs : List Value) (vQ : Value) (q : Nat) (ys : List Value) (W : World) : Prop where
  s : Sep W [itBlk g0 25 #[uP, uQ, .int .i64 mp], itRow B 52 5 vP p (xs), itRow B 54 2 vQ q (ys)]
  o : SpO B vN vL w W
  ow1 : ∀ k, vP.ownBlock = some k → vN.ownBlock = some k ∨ vL.ownBlock = some k ∨ w.heap.size ≤ k
  ow2 : ∀ k, vQ.ownBlock = some k → vN.ownBlock = some k ∨ vL.ownBlock = some k ∨ w.heap.size ≤ k
section
variable {B : Nat} {vN vL uP uQ : Value} {w W : World} {g0 p q pc qc : Nat} {mp : Int} {P Q : Option Addr} {xs ys : List Value}
theorem SpH.alloc {vP vQ : Value} (h : SpH B vN vL w g0 mp uP uQ vP p xs vQ q ys W) (o : Obj) (hB : B ≤ w.heap.size) : SpH B vN vL w g0 mp uP uQ vP p xs vQ q ys (W.alloc o) := ⟨h.s.alloc o, h.o.alloc o hB, h.ow1, h.ow2⟩
theorem SpH.drew {vP vQ : Value} (h : SpH B vN vL w g0 mp uP uQ vP p xs vQ q ys W) : SpH B vN vL w g0 mp uP uQ vP p xs vQ q ys W.drew := ⟨h.s.drewN 1, h.o.drew, h.ow1, h.ow2⟩
theorem SpH.box {vP vQ : Value} (h : SpH B vN vL w g0 mp uP uQ vP p xs vQ q ys W) : Blk W g0 25 #[uP, uQ, .int .i64 mp] := h.s.1 _ (List.mem_cons_self ..)
theorem SpH.rP {vP vQ : Value} (h : SpH B vN vL w g0 mp uP uQ vP p xs vQ q ys W) : W.ownsRow B 52 5 vP p xs := h.s.1 (itRow B 52 5 vP p (xs)) (by simp)
theorem SpH.rQ {vP vQ : Value} (h : SpH B vN vL w g0 mp uP uQ vP p xs vQ q ys W) : W.ownsRow B 54 2 vQ q ys := h.s.1 (itRow B 54 2 vQ q (ys)) (by simp)
theorem SpH.put {vP vQ : Value} (h : SpH B vN vL w g0 mp uP uQ vP p xs vQ q ys W) (hg : w.heap.size ≤ g0) (hB : B ≤ w.heap.size) : SpO B vN vL w ((W.setCell ⟨g0, 0, none⟩ vP).setCell ⟨g0, 1, none⟩ vQ) ∧ Sep ((W.setCell ⟨g0, 0, none⟩ vP).setCell ⟨g0, 1, none⟩ vQ) [itBlk g0 25 #[vP, vQ, .int .i64 mp], itRow B 52 5 vP p (xs), itRow B 54 2 vQ q (ys)] := by
  have G := gb_set (gb_set (gb_refl W (some g0)) 0 vP) 1 vQ
  refine ⟨h.o.grown G (fun k e => by injection e with e; exact .inr (.inr (by omega))) (fun k e => by injection e with e; omega) hB, Sep.one h.s G ?_ (fun k hk => .inl hk)⟩
  have h9 := (h.box.set_ 0 vP).set_ 1 vQ
  exact h9
set_option maxHeartbeats 1000000 in
theorem spN {ops : Array Oper} {o : Oper} {a : Act} {K : Act → World → Prop} {R : Exit → Act → World → Prop} {E : Prop} (hgd : o.guard = none) (s x : Operand)
    (ho : o.op = .call { callee := .builtin .append, args := #[s, x], argTypes := #[22, 22] }) (hs : a.eval s = (.slice P p pc)) {b : Nat} (hx : a.eval x = .slice (some ⟨b, 0, none⟩) 1 1)
    (h : SpH B vN vL w g0 mp uP uQ (.slice P p pc) p xs (.slice Q q qc) q ys W ∧ Blk W b 52 #[.int .u8 0, .string ⟨#[]⟩, .int .i64 0, .int .i64 0, .int .i64 (-6)]) (hB : B ≤ w.heap.size) (hp : p ≤ 5000)
    (hK : ∀ ga ca w3, SpH B vN vL w g0 mp uP uQ (.slice (some ⟨ga, 0, none⟩) (p + 1) ca) (p + 1) (xs ++ [.int .u8 0, .string ⟨#[]⟩, .int .i64 0, .int .i64 0, .int .i64 (-6)]) (.slice Q q qc) q ys w3 → W.grownBy w3 ((.slice P p pc) : Value).ownBlock → K (a.put o.dst (.slice (some ⟨ga, 0, none⟩) (p + 1) ca)) w3) :
    if Region.wanted o (yielded ops a.tmps) = true then Oper.wp Tryz.prog o a W K R else E := by
  obtain ⟨a1, ai, az0, az1, az2⟩ := info_parts info_node
  have hone : ∀ u ∈ ([.int .u8 0, .string ⟨#[]⟩, .int .i64 0, .int .i64 0, .int .i64 (-6)] : List Value), u.oneCell' = true := fun u hu => by
    simp only [List.mem_cons, List.not_mem_nil, or_false] at hu
    rcases hu with rfl | rfl | rfl | rfl | rfl <;> rfl
  refine step_append_lies W hgd s x _ ho B 52 a1 (.agg #[.int .u8 0, .string ⟨#[]⟩, .int .i64 0, .int .i64 0, .int .i64 0]) 5 48 Tryz.underlying22 ai az0 az1 az2 rfl (by omega) (.slice P p pc) p xs hs h.1.rP ⟨b, 0, none⟩ 1 1 [.int .u8 0, .string ⟨#[]⟩, .int .i64 0, .int .i64 0, .int .i64 (-6)] hx rfl (news_blk h.2) hone (by omega) (by unfold maxLen; omega) (by omega) (Nat.le_trans hB h.1.o.bl.size) _ rfl ?_
  intro ga ca w3 hown hgrow hat hlt
  refine hK ga ca w3 ⟨Sep.two h.1.s hgrow hown (fun k hk => ?_), h.1.o.grown hgrow h.1.ow1 (fun k hk => (World.ownsRow.lt h.1.rP k hk).1) hB, fun k hk => ?_, h.1.ow2⟩ hgrow
  · have hk : (some ga : Option Nat) = some k := hk
    rcases hat with h9 | h9
    · exact .inl (h9.trans hk)
    · refine .inr ?_
      injection hk with hk
      rw [← hk, h9]
      exact Nat.le_refl _
  · have hk : (some ga : Option Nat) = some k := hk
    rcases hat with h9 | h9
    · exact h.1.ow1 k (h9.trans hk)
    · injection hk with hk
      rw [← hk, h9]
      exact .inr (.inr h.1.o.bl.size)
set_option maxHeartbeats 1000000 in
theorem spL {vP : Value} {p : Nat} {ops : Array Oper} {o : Oper} {a : Act} {K : Act → World → Prop} {R : Exit → Act → World → Prop} {E : Prop} (hgd : o.guard = none) (s x : Operand)
    (ho : o.op = .call { callee := .builtin .append, args := #[s, x], argTypes := #[23, 23] }) (hs : a.eval s = (.slice Q q qc)) {b : Nat} (hx : a.eval x = .slice (some ⟨b, 0, none⟩) 1 1)
    (h : SpH B vN vL w g0 mp uP uQ vP p xs (.slice Q q qc) q ys W ∧ Blk W b 54 #[.string ⟨#[]⟩, .int .i64 (-6)]) (hB : B ≤ w.heap.size) (hq : q ≤ 20000)
    (hK : ∀ ga ca w3, SpH B vN vL w g0 mp uP uQ vP p xs (.slice (some ⟨ga, 0, none⟩) (q + 1) ca) (q + 1) (ys ++ [.string ⟨#[]⟩, .int .i64 (-6)]) w3 → K (a.put o.dst (.slice (some ⟨ga, 0, none⟩) (q + 1) ca)) w3) :
    if Region.wanted o (yielded ops a.tmps) = true then Oper.wp Tryz.prog o a W K R else E := by
  obtain ⟨j1, ji, jz0, jz1, jz2⟩ := info_parts info_let
  have hone : ∀ u ∈ ([.string ⟨#[]⟩, .int .i64 (-6)] : List Value), u.oneCell' = true := fun u hu => by
    simp only [List.mem_cons, List.not_mem_nil, or_false] at hu
    rcases hu with rfl | rfl <;> rfl
  refine step_append_lies W hgd s x _ ho B 54 j1 (.agg #[.string ⟨#[]⟩, .int .i64 0]) 2 24 Tryz.underlying23 ji jz0 jz1 jz2 rfl (by omega) (.slice Q q qc) q ys hs h.1.rQ ⟨b, 0, none⟩ 1 1 [.string ⟨#[]⟩, .int .i64 (-6)] hx rfl (news_blk h.2) hone (by omega) (by unfold maxLen; omega) (by omega) (Nat.le_trans hB h.1.o.bl.size) _ rfl ?_
  intro ga ca w3 hown hgrow hat hlt
  refine hK ga ca w3 ⟨Sep.three h.1.s hgrow hown (fun k hk => ?_), h.1.o.grown hgrow h.1.ow2 (fun k hk => (World.ownsRow.lt h.1.rQ k hk).1) hB, h.1.ow1, fun k hk => ?_⟩
  · have hk : (some ga : Option Nat) = some k := hk
    rcases hat with h9 | h9
    · exact .inl (h9.trans hk)
    · refine .inr ?_
      injection hk with hk
      rw [← hk, h9]
      exact Nat.le_refl _
  · have hk : (some ga : Option Nat) = some k := hk
    rcases hat with h9 | h9
    · exact h.1.ow2 k (h9.trans hk)
    · injection hk with hk
      rw [← hk, h9]
      exact .inr (.inr h.1.o.bl.size)
end
set_option maxRecDepth 100000 in
set_option maxHeartbeats 8000000 in
/-- spoil -/
theorem rSpoil_any {B : Nat} {vN vL : Value} {n m : Nat} {xs ys : List Value} {mp : Int} {w : World} (hS : Sep w [itRow B 52 5 vN n (xs), itRow B 54 2 vL m (ys)]) (hB : B ≤ w.heap.size) (hn : n ≤ 4096) (hm : m ≤ 16385) :
    Calls Tryz.prog 8 #[.agg #[vN, vL, .int .i64 mp]] w (fun e w' => e = .returned (.int .i64 (((n + m + 40 : Nat)) : Int)) ∧ SpO B vN vL w w') := by
  obtain ⟨a1, ai, az0, az1, az2⟩ := info_parts info_node
  obtain ⟨j1, ji, jz0, jz1, jz2⟩ := info_parts info_let
  obtain ⟨AN, cN, rfl, -, hgN⟩ := own_form (show w.ownsRow B 52 5 vN n xs from hS.1 (itRow B 52 5 vN n (xs)) (by simp))
  obtain ⟨AL, cL, rfl, -, hgL⟩ := own_form (show w.ownsRow B 54 2 vL m ys from hS.1 (itRow B 54 2 vL m (ys)) (by simp))
  have hO0 : SpO B (.slice AN n cN) (.slice AL m cL) w w := ⟨Below.refl _ _, fun _ _ _ _ => rfl⟩
  have hO1 := Lib.hid (hO0.alloc (.cells #[.slice AN n cN, .slice AL m cL, .int .i64 mp] 25) hB)
  have hS1 := Lib.hid (hS.new (World.grownBy_alloc w (.cells #[.slice AN n cN, .slice AL m cL, .int .i64 mp] 25) none) (a := itBlk w.heap.size 25 #[.slice AN n cN, .slice AL m cL, .int .i64 mp]) (Blk.new w 25 _) (fun k hk => by injection hk with hk; rw [← hk]; exact Nat.le_refl _))
  replace hgN := Lib.hid hgN
  replace hgL := Lib.hid hgL
  replace hB := Lib.hid hB
  clear hS hO0
  go_enter Tryz.func8, Tryz.ntmps8
  go_upto_region 1 with fail
  generalize w.alloc (.cells #[.slice AN n cN, .slice AL m cL, .int .i64 mp] 25) = w1 at hO1 hS1 ⊢
  generalize hge : w.heap.size = g0 at hS1 ⊢
  have hg1 := Lib.hid (Nat.le_of_eq hge)
  obtain ⟨ws, hws⟩ : ∃ k, k = w.heap.size := ⟨_, rfl⟩
  have hg0 := Lib.hid (show ws ≤ g0 by rw [hws]; exact hg1.out)
  replace hge := Lib.hid hge
  replace hws := Lib.hid hws
  clear hg1
  go_wp2_with fail
  go_loopg [3] n (fun kx v2 wr => ∃ (i : Nat) (xs : List Value), v2 = .int .i64 (i : Int) ∧ i + kx = n ∧ Hid (SpO B (.slice AN n cN) (.slice AL m cL) w wr) ∧ Hid (Sep wr [itBlk g0 25 #[(.slice AN n cN), (.slice AL m cL), .int .i64 mp], itRow B 52 5 (.slice AN n cN) n (xs), itRow B 54 2 (.slice AL m cL) m (ys)]))
  case atStart => exact ⟨0, xs, rfl, by omega, hO1, hS1⟩
  case round =>
    clear hO1 hS1
    obtain ⟨i, xs2, rfl, hik, hO, hS⟩ := hrel
    have kb : Blk wr g0 25 #[(.slice AN n cN), (.slice AL m cL), .int .i64 mp] := hS.out.1 _ (List.mem_cons_self ..)
    have b0 : wr.cell? ⟨g0, 0, none⟩ = some (.slice AN n cN) := kb.cell 0
    have b1 : wr.cell? ⟨g0, 1, none⟩ = some (.slice AL m cL) := kb.cell 1
    have hw1 : IntKind.i64.wrap ((i : Int) + 1) = (i : Int) + 1 := by rw [IntKind.wrap_i64]; omega
    have hw2 : wrap64 ((i : Int) + 1) = (i : Int) + 1 := w64_in _ (by omega)
    by_cases hi : i < n
    case pos =>
      have hiI : (i : Int) < (n : Int) := by omega
      obtain ⟨g, rfl⟩ := hgN.out (by omega)
      have hrow : wr.ownsRow B 52 5 (.slice (some ⟨g, 0, none⟩) n cN) n xs2 := hS.out.1 (itRow B 52 5 (.slice (some ⟨g, 0, none⟩) n cN) n (xs2)) (by simp)
      obtain ⟨⟨u0, hu0⟩, hf0⟩ := row_at hrow (j := 0) hi (by decide)
      obtain ⟨⟨u1, hu1⟩, hf1⟩ := row_at hrow (j := 1) hi (by decide)
      obtain ⟨⟨u2, hu2⟩, hf2⟩ := row_at hrow (j := 2) hi (by decide)
      obtain ⟨⟨u3, hu3⟩, hf3⟩ := row_at hrow (j := 3) hi (by decide)
      obtain ⟨⟨u4, hu4⟩, hf4⟩ := row_at hrow (j := 4) hi (by decide)
      rw [Nat.add_zero] at hu0 hf0
      have r0 := (World.ownsRow.stored hrow (i * 5) (.int .u8 0)).1
      have G0 := gb_set (gb_refl wr (some g)) (i * 5) (.int .u8 0)
      have r1 := (World.ownsRow.stored r0 (i * 5 + 1) (.string ⟨#[]⟩)).1
      have G1 := gb_set G0 (i * 5 + 1) (.string ⟨#[]⟩)
      have r2 := (World.ownsRow.stored r1 (i * 5 + 2) (.int .i64 0)).1
      have G2 := gb_set G1 (i * 5 + 2) (.int .i64 0)
      have r3 := (World.ownsRow.stored r2 (i * 5 + 3) (.int .i64 0)).1
      have G3 := gb_set G2 (i * 5 + 3) (.int .i64 0)
      have r4 := (World.ownsRow.stored r3 (i * 5 + 4) (.int .i64 (-5))).1
      have G4 := gb_set G3 (i * 5 + 4) (.int .i64 (-5))
      have hBg := (World.ownsRow.lt hrow g rfl).1
      have hS2 := Lib.hid (Sep.two hS.out (b' := itRow B 52 5 (.slice (some ⟨g, 0, none⟩) n cN) n (_)) G4 r4 (fun k hk => .inl hk))
      have hO2 := Lib.hid (hO.out.grown G4 (fun k e => by injection e with e; exact .inl (by rw [← e]; rfl)) (fun k e => by injection e with e; omega) hB.out)
      replace hrow := Lib.hid hrow
      clear kb r0 r1 r2 r3 r4 G0 G1 G2 G3 G4 hO hS hi hBg
      go_wp2_with fail
      go_roundg (gk - 1)
      case measure => omega
      case rel => exact ⟨i + 1, _, rfl, by omega, hO2, hS2⟩
    case neg =>
      have hiI : ¬ (i : Int) < (n : Int) := by omega
      obtain ⟨xs, hxs⟩ : ∃ q, q = xs2 := ⟨_, rfl⟩
      rw [← hxs] at hS
      clear kb hxs hi hik hw1 hw2
      go_wp2_with fail
      clear b0 b1 hiI
      go_loopg [4] m (fun kx v3 wr => ∃ (i : Nat) (ys : List Value), v3 = .int .i64 (i : Int) ∧ i + kx = m ∧ Hid (SpO B (.slice AN n cN) (.slice AL m cL) w wr) ∧ Hid (Sep wr [itBlk g0 25 #[(.slice AN n cN), (.slice AL m cL), .int .i64 mp], itRow B 52 5 (.slice AN n cN) n (xs), itRow B 54 2 (.slice AL m cL) m (ys)]))
      case atStart => exact ⟨0, ys, rfl, by omega, hO, hS⟩
      case round =>
        clear hO hS
        obtain ⟨i, ys2, rfl, hik, hO, hS⟩ := hrel
        have kb : Blk wr g0 25 #[(.slice AN n cN), (.slice AL m cL), .int .i64 mp] := hS.out.1 _ (List.mem_cons_self ..)
        have b0 : wr.cell? ⟨g0, 0, none⟩ = some (.slice AN n cN) := kb.cell 0
        have b1 : wr.cell? ⟨g0, 1, none⟩ = some (.slice AL m cL) := kb.cell 1
        have hw1 : IntKind.i64.wrap ((i : Int) + 1) = (i : Int) + 1 := by rw [IntKind.wrap_i64]; omega
        have hw2 : wrap64 ((i : Int) + 1) = (i : Int) + 1 := w64_in _ (by omega)
        by_cases hi : i < m
        case pos =>
          have hiI : (i : Int) < (m : Int) := by omega
          obtain ⟨g, rfl⟩ := hgL.out (by omega)
          have hrow : wr.ownsRow B 54 2 (.slice (some ⟨g, 0, none⟩) m cL) m ys2 := hS.out.1 (itRow B 54 2 (.slice (some ⟨g, 0, none⟩) m cL) m (ys2)) (by simp)
          obtain ⟨⟨u0, hu0⟩, hf0⟩ := row_at hrow (j := 0) hi (by decide)
          obtain ⟨⟨u1, hu1⟩, hf1⟩ := row_at hrow (j := 1) hi (by decide)
          rw [Nat.add_zero] at hu0 hf0
          have r0 := (World.ownsRow.stored hrow (i * 2) (.string ⟨#[]⟩)).1
          have G0 := gb_set (gb_refl wr (some g)) (i * 2) (.string ⟨#[]⟩)
          have r1 := (World.ownsRow.stored r0 (i * 2 + 1) (.int .i64 (-5))).1
          have G1 := gb_set G0 (i * 2 + 1) (.int .i64 (-5))
          have hBg := (World.ownsRow.lt hrow g rfl).1
          have hS2 := Lib.hid (Sep.three hS.out (c' := itRow B 54 2 (.slice (some ⟨g, 0, none⟩) m cL) m (_)) G1 r1 (fun k hk => .inl hk))
          have hO2 := Lib.hid (hO.out.grown G1 (fun k e => by injection e with e; exact .inr (.inl (by rw [← e]; rfl))) (fun k e => by injection e with e; omega) hB.out)
          replace hrow := Lib.hid hrow
          clear kb r0 r1 G0 G1 hO hS hi hBg
          skip
          go_wp2_with fail
          go_roundg (gk - 1)
          case measure => omega
          case rel => exact ⟨i + 1, _, rfl, by omega, hO2, hS2⟩
        case neg =>
          have hiI : ¬ (i : Int) < (m : Int) := by omega
          obtain ⟨ys, hys⟩ : ∃ q, q = ys2 := ⟨_, rfl⟩
          rw [← hys] at hS
          clear kb hys hi hik hw1 hw2
          go_wp2_with fail
          clear b0 b1 hiI
          have hq0 : Hid ((∀ k, (Value.slice AN n cN).ownBlock = some k → (Value.slice AN n cN).ownBlock = some k ∨ (Value.slice AL m cL).ownBlock = some k ∨ ws ≤ k) ∧ (∀ k, (Value.slice AL m cL).ownBlock = some k → (Value.slice AN n cN).ownBlock = some k ∨ (Value.slice AL m cL).ownBlock = some k ∨ ws ≤ k)) := Lib.hid ⟨fun k h => .inl h, fun k h => .inr (.inl h)⟩
          go_loopg [5] 20 (fun kx v4 wr => ∃ (i p q pc qc : Nat) (P Q : Option Addr) (xs ys : List Value), v4 = .int .i64 (i : Int) ∧ i + kx = 20 ∧ p = n + i ∧ q = m + i ∧ Hid (SpO B (.slice AN n cN) (.slice AL m cL) w wr) ∧ Hid (Sep wr [itBlk g0 25 #[(.slice P p pc), (.slice Q q qc), .int .i64 mp], itRow B 52 5 (.slice P p pc) p (xs), itRow B 54 2 (.slice Q q qc) q (ys)]) ∧ Hid ((∀ k, (Value.slice P p pc).ownBlock = some k → (Value.slice AN n cN).ownBlock = some k ∨ (Value.slice AL m cL).ownBlock = some k ∨ ws ≤ k) ∧ (∀ k, (Value.slice Q q qc).ownBlock = some k → (Value.slice AN n cN).ownBlock = some k ∨ (Value.slice AL m cL).ownBlock = some k ∨ ws ≤ k)))
          
          case atStart => exact ⟨0, n, m, cN, cL, AN, AL, xs, ys, rfl, rfl, rfl, rfl, hO, hS, hq0⟩
          case round =>
            clear hO hS hq0
            obtain ⟨i, p, q, pc, qc, P, Q, xs, ys, rfl, hik, hp, hq, hO, hS, hW⟩ := hrel
            have kb : Blk wr g0 25 #[.slice P p pc, .slice Q q qc, .int .i64 mp] := hS.out.1 _ (List.mem_cons_self ..)
            have b0 : wr.cell? ⟨g0, 0, none⟩ = some (.slice P p pc) := kb.cell 0
            have b1 : wr.cell? ⟨g0, 1, none⟩ = some (.slice Q q qc) := kb.cell 1
            have f0 := kb.frozen 0
            have f1 := kb.frozen 1
            have hw1 : IntKind.i64.wrap ((i : Int) + 1) = (i : Int) + 1 := by rw [IntKind.wrap_i64]; omega
            have hw2 : wrap64 ((i : Int) + 1) = (i : Int) + 1 := w64_in _ (by omega)
            by_cases hi : i < 20
            case neg =>
              clear hw1 hw2
              have hiI : ¬ (i : Int) < 20 := by omega
              have hp9 : p ≤ 4200 := by omega
              have hq9 : q ≤ 16500 := by omega
              have hfin : Hid (p + q = n + m + 40) := Lib.hid (by omega)
              clear hp hq hik hn hm
              have hw3 : wrap64 ((p : Int) + (q : Int)) = (p : Int) + (q : Int) := w64_in _ (by omega)
              have hw4 : IntKind.i64.wrap ((p : Int) + (q : Int)) = (p : Int) + (q : Int) := by rw [IntKind.wrap_i64]; omega
              clear kb hi hp9 hq9
              go_wp2_with fail
              go_ret
              have e : (n : Int) + (m : Int) + 40 = (p : Int) + (q : Int) := by have := hfin.out; omega
              exact ⟨by first | (rw [e]; rfl) | (rw [show (((n + m + 40 : Nat)) : Int) = (n : Int) + (m : Int) + 40 from by omega, e]; rfl), hO.out⟩
            case pos =>
              replace hw1 := Lib.hid hw1
              replace hw2 := Lib.hid hw2
              have hiI : (i : Int) < 20 := by omega
              have hp9 : p ≤ 4200 := by omega
              have hq9 : q ≤ 16500 := by omega
              have hp2 : Hid (p + 1 = n + (i + 1)) := Lib.hid (by omega)
              have hq2 : Hid (q + 1 = m + (i + 1)) := Lib.hid (by omega)
              have hik2 : Hid (i + 1 + (gk - 1) = 20 ∧ 0 < gk) := Lib.hid (by omega)
              clear hp hq hi hik
              replace hw1 := hw1.out
              replace hw2 := hw2.out
              have kbA : Blk (wr.alloc (.cells #[.int .u8 0, .string ⟨#[]⟩, .int .i64 0, .int .i64 0, .int .i64 (-6)] 52)) g0 25 #[.slice P p pc, .slice Q q qc, .int .i64 mp] := kb.alloc _
              have b0A : (wr.alloc (.cells #[.int .u8 0, .string ⟨#[]⟩, .int .i64 0, .int .i64 0, .int .i64 (-6)] 52)).cell? ⟨g0, 0, none⟩ = some (.slice P p pc) := kbA.cell 0
              have b1A : (wr.alloc (.cells #[.int .u8 0, .string ⟨#[]⟩, .int .i64 0, .int .i64 0, .int .i64 (-6)] 52)).cell? ⟨g0, 1, none⟩ = some (.slice Q q qc) := kbA.cell 1
              have kbB_ : Blk (wr.alloc (.cells #[.string ⟨#[]⟩, .int .i64 (-6)] 54)) g0 25 #[.slice P p pc, .slice Q q qc, .int .i64 mp] := kb.alloc _
              have b0B_ : (wr.alloc (.cells #[.string ⟨#[]⟩, .int .i64 (-6)] 54)).cell? ⟨g0, 0, none⟩ = some (.slice P p pc) := kbB_.cell 0
              have b1B_ : (wr.alloc (.cells #[.string ⟨#[]⟩, .int .i64 (-6)] 54)).cell? ⟨g0, 1, none⟩ = some (.slice Q q qc) := kbB_.cell 1
              have kbAB : Blk ((wr.alloc (.cells #[.int .u8 0, .string ⟨#[]⟩, .int .i64 0, .int .i64 0, .int .i64 (-6)] 52)).alloc (.cells #[.string ⟨#[]⟩, .int .i64 (-6)] 54)) g0 25 #[.slice P p pc, .slice Q q qc, .int .i64 mp] := (kb.alloc _).alloc _
              have b0AB : ((wr.alloc (.cells #[.int .u8 0, .string ⟨#[]⟩, .int .i64 0, .int .i64 0, .int .i64 (-6)] 52)).alloc (.cells #[.string ⟨#[]⟩, .int .i64 (-6)] 54)).cell? ⟨g0, 0, none⟩ = some (.slice P p pc) := kbAB.cell 0
              have b1AB : ((wr.alloc (.cells #[.int .u8 0, .string ⟨#[]⟩, .int .i64 0, .int .i64 0, .int .i64 (-6)] 52)).alloc (.cells #[.string ⟨#[]⟩, .int .i64 (-6)] 54)).cell? ⟨g0, 1, none⟩ = some (.slice Q q qc) := kbAB.cell 1
              have kbBA : Blk ((wr.alloc (.cells #[.string ⟨#[]⟩, .int .i64 (-6)] 54)).alloc (.cells #[.int .u8 0, .string ⟨#[]⟩, .int .i64 0, .int .i64 0, .int .i64 (-6)] 52)) g0 25 #[.slice P p pc, .slice Q q qc, .int .i64 mp] := (kb.alloc _).alloc _
              have b0BA : ((wr.alloc (.cells #[.string ⟨#[]⟩, .int .i64 (-6)] 54)).alloc (.cells #[.int .u8 0, .string ⟨#[]⟩, .int .i64 0, .int .i64 0, .int .i64 (-6)] 52)).cell? ⟨g0, 0, none⟩ = some (.slice P p pc) := kbBA.cell 0
              have b1BA : ((wr.alloc (.cells #[.string ⟨#[]⟩, .int .i64 (-6)] 54)).alloc (.cells #[.int .u8 0, .string ⟨#[]⟩, .int .i64 0, .int .i64 0, .int .i64 (-6)] 52)).cell? ⟨g0, 1, none⟩ = some (.slice Q q qc) := kbBA.cell 1
              replace kb := Lib.hid kb
              replace kbA := Lib.hid kbA
              replace kbB_ := Lib.hid kbB_
              replace kbAB := Lib.hid kbAB
              replace kbBA := Lib.hid kbBA
              have hrN := Lib.hid (show wr.ownsRow B 52 5 (.slice P p pc) p xs from hS.out.1 (itRow B 52 5 (.slice P p pc) p (xs)) (by simp))
              have hrL := Lib.hid (show wr.ownsRow B 54 2 (.slice Q q qc) q ys from hS.out.1 (itRow B 54 2 (.slice Q q qc) q (ys)) (by simp))
              have hBw : Hid (B ≤ wr.heap.size) := Lib.hid (Nat.le_trans hB.out hO.out.bl.size)
              go_upto_region 12 with fail
              have hpk : Hid (SpH B (.slice AN n cN) (.slice AL m cL) w g0 mp (.slice P p pc) (.slice Q q qc) (.slice P p pc) p (xs) (.slice Q q qc) q (ys) (wr)) := Lib.hid ⟨hS.out, hO.out, (by have h := hW.out.1; rw [hws.out] at h; exact h), (by have h := hW.out.2; rw [hws.out] at h; exact h)⟩
              have hgB : Hid (w.heap.size ≤ g0) := Lib.hid (by rw [← hws.out]; exact hg0.out)
              have hp5 : Hid (p ≤ 5000) := Lib.hid (by omega)
              have hq5 : Hid (q ≤ 20000) := Lib.hid (by omega)
              have pk1 : Hid ((SpH B (.slice AN n cN) (.slice AL m cL) w g0 mp (.slice P p pc) (.slice Q q qc) (.slice P p pc) p (xs) (.slice Q q qc) q (ys) ((wr.alloc (.cells #[.int .u8 0, .string ⟨#[]⟩, .int .i64 0, .int .i64 0, .int .i64 (-6)] 52)).drew)) ∧ Blk ((wr.alloc (.cells #[.int .u8 0, .string ⟨#[]⟩, .int .i64 0, .int .i64 0, .int .i64 (-6)] 52)).drew) wr.heap.size 52 #[.int .u8 0, .string ⟨#[]⟩, .int .i64 0, .int .i64 0, .int .i64 (-6)]) := Lib.hid ⟨(hpk.out.alloc _ hB.out).drew, Blk.drew (Blk.new wr 52 #[.int .u8 0, .string ⟨#[]⟩, .int .i64 0, .int .i64 0, .int .i64 (-6)])⟩
              have pk2 : Hid ((SpH B (.slice AN n cN) (.slice AL m cL) w g0 mp (.slice P p pc) (.slice Q q qc) (.slice P p pc) p (xs) (.slice Q q qc) q (ys) (((wr.alloc (.cells #[.string ⟨#[]⟩, .int .i64 (-6)] 54)).alloc (.cells #[.int .u8 0, .string ⟨#[]⟩, .int .i64 0, .int .i64 0, .int .i64 (-6)] 52)).drew)) ∧ Blk (((wr.alloc (.cells #[.string ⟨#[]⟩, .int .i64 (-6)] 54)).alloc (.cells #[.int .u8 0, .string ⟨#[]⟩, .int .i64 0, .int .i64 0, .int .i64 (-6)] 52)).drew) (wr.heap.size + 1) 52 #[.int .u8 0, .string ⟨#[]⟩, .int .i64 0, .int .i64 0, .int .i64 (-6)]) := Lib.hid ⟨((hpk.out.alloc _ hB.out).alloc _ hB.out).drew, by
                have h := Blk.new (wr.alloc (.cells #[.string ⟨#[]⟩, .int .i64 (-6)] 54)) 52 #[.int .u8 0, .string ⟨#[]⟩, .int .i64 0, .int .i64 0, .int .i64 (-6)]
                rw [World.size_alloc] at h
                exact Blk.drew h⟩
              have pk3 : Hid ((SpH B (.slice AN n cN) (.slice AL m cL) w g0 mp (.slice P p pc) (.slice Q q qc) (.slice P p pc) p (xs) (.slice Q q qc) q (ys) (((wr.alloc (.cells #[.int .u8 0, .string ⟨#[]⟩, .int .i64 0, .int .i64 0, .int .i64 (-6)] 52)).alloc (.cells #[.string ⟨#[]⟩, .int .i64 (-6)] 54)).drew)) ∧ Blk (((wr.alloc (.cells #[.int .u8 0, .string ⟨#[]⟩, .int .i64 0, .int .i64 0, .int .i64 (-6)] 52)).alloc (.cells #[.string ⟨#[]⟩, .int .i64 (-6)] 54)).drew) wr.heap.size 52 #[.int .u8 0, .string ⟨#[]⟩, .int .i64 0, .int .i64 0, .int .i64 (-6)]) := Lib.hid ⟨((hpk.out.alloc _ hB.out).alloc _ hB.out).drew, Blk.drew ((Blk.new wr 52 #[.int .u8 0, .string ⟨#[]⟩, .int .i64 0, .int .i64 0, .int .i64 (-6)]).alloc _)⟩
              have kk2 : Hid (Blk (((wr.alloc (.cells #[.string ⟨#[]⟩, .int .i64 (-6)] 54)).alloc (.cells #[.int .u8 0, .string ⟨#[]⟩, .int .i64 0, .int .i64 0, .int .i64 (-6)] 52)).drew) wr.heap.size 54 #[.string ⟨#[]⟩, .int .i64 (-6)]) := Lib.hid (Blk.drew ((Blk.new wr 54 #[.string ⟨#[]⟩, .int .i64 (-6)]).alloc (.cells #[.int .u8 0, .string ⟨#[]⟩, .int .i64 0, .int .i64 0, .int .i64 (-6)] 52)))
              have kk3 : Hid (Blk (((wr.alloc (.cells #[.int .u8 0, .string ⟨#[]⟩, .int .i64 0, .int .i64 0, .int .i64 (-6)] 52)).alloc (.cells #[.string ⟨#[]⟩, .int .i64 (-6)] 54)).drew) (wr.heap.size + 1) 54 #[.string ⟨#[]⟩, .int .i64 (-6)]) := Lib.hid (by
                have h := Blk.new (wr.alloc (.cells #[.int .u8 0, .string ⟨#[]⟩, .int .i64 0, .int .i64 0, .int .i64 (-6)] 52)) 54 #[.string ⟨#[]⟩, .int .i64 (-6)]
                rw [World.size_alloc] at h
                exact Blk.drew h)
              have hltP : Hid (∀ k, ((Value.slice P p pc)).ownBlock = some k → k < wr.heap.size) := Lib.hid (fun k hk => (World.ownsRow.lt hrN.out k hk).2)
              clear hp9 hq9 kb kbA kbB_ kbAB kbBA
              go_region_law (first
                | (have hq9 := pkB; clear hq9; apply spL; (case h => exact pkB.out); (case hgd => rfl); (case ho => rfl); (case hs => rfl); (case hx => rfl); (case hB => exact hB.out); (case hq => exact hq5.out); intro gb cb w4 hp4; have kg := hp4.box; have y0 : w4.cell? ⟨g0, 0, none⟩ = some (.slice P p pc) := kg.cell 0; have y1 : w4.cell? ⟨g0, 1, none⟩ = some (.slice Q q qc) := kg.cell 1; have v0 := kg.frozen 0; have v1 := kg.frozen 1; clear kg; replace hp4 := Lib.hid hp4)
                | (apply spN; (case h => exact pk1.out); (case hgd => rfl); (case ho => rfl); (case hs => rfl); (case hx => rfl); (case hB => exact hB.out); (case hp => exact hp5.out); intro ga ca w3 hp3 hgr; have kg := Lib.hid hp3.box; have x0 : w3.cell? ⟨g0, 0, none⟩ = some (.slice P p pc) := kg.out.cell 0; have x1 : w3.cell? ⟨g0, 1, none⟩ = some (.slice Q q qc) := kg.out.cell 1; have x0a : (w3.alloc (.cells #[.string ⟨#[]⟩, .int .i64 (-6)] 54)).cell? ⟨g0, 0, none⟩ = some (.slice P p pc) := (kg.out.alloc _).cell 0; have x1a : (w3.alloc (.cells #[.string ⟨#[]⟩, .int .i64 (-6)] 54)).cell? ⟨g0, 1, none⟩ = some (.slice Q q qc) := (kg.out.alloc _).cell 1; have pkB : Hid ((SpH B (.slice AN n cN) (.slice AL m cL) w g0 mp (.slice P p pc) (.slice Q q qc) (.slice (some ⟨ga, 0, none⟩) (p + 1) ca) (p + 1) (xs ++ [.int .u8 0, .string ⟨#[]⟩, .int .i64 0, .int .i64 0, .int .i64 (-6)]) (.slice Q q qc) q (ys) (w3.alloc (.cells #[.string ⟨#[]⟩, .int .i64 (-6)] 54))) ∧ Blk (w3.alloc (.cells #[.string ⟨#[]⟩, .int .i64 (-6)] 54)) w3.heap.size 54 #[.string ⟨#[]⟩, .int .i64 (-6)]) := Lib.hid ⟨hp3.alloc _ hB.out, Blk.new w3 54 #[.string ⟨#[]⟩, .int .i64 (-6)]⟩; replace hp3 := Lib.hid hp3; clear hgr kg)
                | (apply spN; (case h => exact pk2.out); (case hgd => rfl); (case ho => rfl); (case hs => rfl); (case hx => rfl); (case hB => exact hB.out); (case hp => exact hp5.out); intro ga ca w3 hp3 hgr; have kg := Lib.hid hp3.box; have x0 : w3.cell? ⟨g0, 0, none⟩ = some (.slice P p pc) := kg.out.cell 0; have x1 : w3.cell? ⟨g0, 1, none⟩ = some (.slice Q q qc) := kg.out.cell 1; have x0a : (w3.alloc (.cells #[.string ⟨#[]⟩, .int .i64 (-6)] 54)).cell? ⟨g0, 0, none⟩ = some (.slice P p pc) := (kg.out.alloc _).cell 0; have x1a : (w3.alloc (.cells #[.string ⟨#[]⟩, .int .i64 (-6)] 54)).cell? ⟨g0, 1, none⟩ = some (.slice Q q qc) := (kg.out.alloc _).cell 1; have pkB : Hid ((SpH B (.slice AN n cN) (.slice AL m cL) w g0 mp (.slice P p pc) (.slice Q q qc) (.slice (some ⟨ga, 0, none⟩) (p + 1) ca) (p + 1) (xs ++ [.int .u8 0, .string ⟨#[]⟩, .int .i64 0, .int .i64 0, .int .i64 (-6)]) (.slice Q q qc) q (ys) (w3)) ∧ Blk (w3) wr.heap.size 54 #[.string ⟨#[]⟩, .int .i64 (-6)]) := Lib.hid ⟨hp3, (hgr.block _ (Blk.lt kk2.out) (fun e => by have := hltP.out _ e.symm; omega)).trans kk2.out⟩; replace hp3 := Lib.hid hp3; clear hgr kg)
                | (apply spN; (case h => exact pk3.out); (case hgd => rfl); (case ho => rfl); (case hs => rfl); (case hx => rfl); (case hB => exact hB.out); (case hp => exact hp5.out); intro ga ca w3 hp3 hgr; have kg := Lib.hid hp3.box; have x0 : w3.cell? ⟨g0, 0, none⟩ = some (.slice P p pc) := kg.out.cell 0; have x1 : w3.cell? ⟨g0, 1, none⟩ = some (.slice Q q qc) := kg.out.cell 1; have x0a : (w3.alloc (.cells #[.string ⟨#[]⟩, .int .i64 (-6)] 54)).cell? ⟨g0, 0, none⟩ = some (.slice P p pc) := (kg.out.alloc _).cell 0; have x1a : (w3.alloc (.cells #[.string ⟨#[]⟩, .int .i64 (-6)] 54)).cell? ⟨g0, 1, none⟩ = some (.slice Q q qc) := (kg.out.alloc _).cell 1; have pkB : Hid ((SpH B (.slice AN n cN) (.slice AL m cL) w g0 mp (.slice P p pc) (.slice Q q qc) (.slice (some ⟨ga, 0, none⟩) (p + 1) ca) (p + 1) (xs ++ [.int .u8 0, .string ⟨#[]⟩, .int .i64 0, .int .i64 0, .int .i64 (-6)]) (.slice Q q qc) q (ys) (w3)) ∧ Blk (w3) (wr.heap.size + 1) 54 #[.string ⟨#[]⟩, .int .i64 (-6)]) := Lib.hid ⟨hp3, (hgr.block _ (Blk.lt kk3.out) (fun e => by have := hltP.out _ e.symm; omega)).trans kk3.out⟩; replace hp3 := Lib.hid hp3; clear hgr kg))
              all_goals
                have h5 := hp4.out.put hgB.out hB.out
                have hO5 := Lib.hid h5.1
                have hS5 := Lib.hid h5.2
                have hW5 : Hid ((∀ k, (Value.slice (some ⟨ga, 0, none⟩) (p + 1) ca).ownBlock = some k → (Value.slice AN n cN).ownBlock = some k ∨ (Value.slice AL m cL).ownBlock = some k ∨ ws ≤ k) ∧ (∀ k, (Value.slice (some ⟨gb, 0, none⟩) (q + 1) cb).ownBlock = some k → (Value.slice AN n cN).ownBlock = some k ∨ (Value.slice AL m cL).ownBlock = some k ∨ ws ≤ k)) := Lib.hid ⟨by have h := hp4.out.ow1; rw [← hws.out] at h; exact h, by have h := hp4.out.ow2; rw [← hws.out] at h; exact h⟩
                clear h5 y0 y1 v0 v1 x0 x1 x0a x1a b0 b1 f0 f1
                go_wp2_with fail
                go_roundg (gk - 1)
                case measure => have := hik2.out.2; omega
                case rel => exact ⟨i + 1, p + 1, q + 1, ca, cb, some ⟨ga, 0, none⟩, some ⟨gb, 0, none⟩, _, _, rfl, hik2.out.1, hp2.out, hq2.out, hO5, hS5, hW5⟩
end Go.Proofs.YtnaadajcehfmiaaGreatDoor
