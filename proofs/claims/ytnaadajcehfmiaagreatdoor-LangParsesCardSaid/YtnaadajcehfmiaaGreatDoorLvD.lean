/- filigreeref11: what a reading holds; fault, text, place, want, take. -/
import Derived.Test.YtnaadajcehfmiaaGreatDoorLvC
namespace Go.Proofs.YtnaadajcehfmiaaGreatDoor
open Go.RowKit Go.Sort Go.Maps

def wrN (b : Bool) : Nat := if b then 110 else 0
/-- A reading's cells. -/
def rvC (vT : Value) (wrong : Bool) (last i : Nat) (o : Int) (vN vH vL : Value) (wh cd : Nat) : Array Value :=
  #[vT, .int .i64 (wrN wrong : Int), .int .i64 (last : Int), .int .i64 (i : Int), .int .i64 o, vN, vH, vL, .int .i64 (wh : Int), .int .i64 (cd : Int)]
/-- A reading in memory. -/
def RvM (T0 : List Tok) (last : Nat) (wrong : Bool) (B p : Nat) (X : List It) (o : Int) (i : Nat) (N : List Nod) (H : List Nat) (U : List (List Nat × Nat)) (wh cd : Nat) (w : World) : Prop :=
  ∃ (vT vN vH vL : Value),
    Sep w ([itBlk p 47 (rvC vT wrong last i o vN vH vL wh cd), itRow B 67 2 vT T0.length (T0.flatMap encV), itRow B 52 5 vN N.length (N.flatMap encN), itRow B 3 1 vH H.length (H.flatMap encH), itRow B 54 2 vL U.length (U.flatMap encL)] ++ X) ∧ B ≤ p
/-- The tokens of a text. -/
structure TkOk (T0 : List Tok) (last : Nat) : Prop where
  tl : T0.length ≤ 16384
  toks : ∀ t, t ∈ T0 → t.text ≠ [] ∧ t.text.length ≤ 16384 ∧ Byt t.text ∧ t.at_ ≤ 16384
  last : last ≤ 16384
/-- The plain facts of a reading without a fault. -/
structure RvOk (T0 : List Tok) (i : Nat) (st : PS) : Prop where
  iT : st.T = T0.drop i
  il : i ≤ T0.length
  len : st.H.length = st.N.length
  max : st.N.length ≤ 4096
  hs : ∀ h, h ∈ st.H → h ≤ 64
  lets : st.L.length ≤ i
  nams : ∀ t, t ∈ st.names → Byt t
def RvS (T0 : List Tok) (last : Nat) (wrong : Bool) (B p : Nat) (X : List It) (o : Nat) (st : PS) (w : World) : Prop :=
  ∃ i, RvM T0 last wrong B p X (o : Int) i st.N st.H st.L 0 0 w ∧ RvOk T0 i st
/-- A reading with a fault. -/
def RvF (T0 : List Tok) (last : Nat) (wrong : Bool) (B p : Nat) (X : List It) (U : List (List Nat × Nat)) (wh cd : Nat) (w : World) : Prop :=
  ∃ (o : Int) (i : Nat) (N : List Nod) (H : List Nat), RvM T0 last wrong B p X o i N H U wh cd w
/-- How a method with a place ends. -/
def PostV (T0 : List Tok) (last : Nat) (wrong : Bool) (B p : Nat) (X : List It) (o : Nat) (st : PS) (w : World) (r : PR Nat) (e : Ending) (w' : World) : Prop :=
  match r with
  | .ok v st' => e = .returned (.int .i64 (v : Int)) ∧ RvS T0 last wrong B p X o st' w' ∧ Below B w w' ∧ v < st'.N.length ∧ st.N.length ≤ st'.N.length
  | .no a c => (∃ z : Int, e = .returned (.int .i64 z)) ∧ RvF T0 last wrong B p X st.L a c w' ∧ Below B w w' ∧ c ≠ 0
/-- How a method without a result ends. -/
def PostW (T0 : List Tok) (last : Nat) (wrong : Bool) (B p : Nat) (X : List It) (o : Nat) (st : PS) (w : World) (r : PR Unit) (e : Ending) (w' : World) : Prop :=
  match r with
  | .ok _ st' => e = .returned (.tuple #[]) ∧ RvS T0 last wrong B p X o st' w' ∧ Below B w w'
  | .no a c => e = .returned (.tuple #[]) ∧ RvF T0 last wrong B p X st.L a c w' ∧ Below B w w' ∧ c ≠ 0
/-- What comes at place i. -/
def txA (T0 : List Tok) (i : Nat) : List Nat := match T0[i]? with | none => [] | some t => t.text
def plA (T0 : List Tok) (last i : Nat) : Nat := match T0[i]? with | none => last | some t => t.at_
theorem drop_hd {T0 : List Tok} {i : Nat} : T0.drop i = (match T0[i]? with | none => [] | some t => t :: T0.drop (i + 1)) := by
  rcases Nat.lt_or_ge i T0.length with h | h
  · rw [List.drop_eq_getElem_cons h, List.getElem?_eq_getElem h]
  · rw [List.drop_eq_nil_of_le h, List.getElem?_eq_none h]
section
variable {T0 : List Tok} {last : Nat} {wrong : Bool} {B p i : Nat} {X : List It} {o : Int} {oN : Nat} {N : List Nod} {H : List Nat} {U : List (List Nat × Nat)} {wh cd : Nat} {st : PS} {w w' : World}
theorem RvOk.tx (h : RvOk T0 i st) : st.tx = txA T0 i := by
  unfold PS.tx txA
  rw [h.iT, drop_hd]
  rcases T0[i]? with _ | t <;> rfl
theorem RvOk.pl (h : RvOk T0 i st) : st.pl last = plA T0 last i := by
  unfold PS.pl plA
  rw [h.iT, drop_hd]
  rcases T0[i]? with _ | t <;> rfl
theorem RvOk.on (h : RvOk T0 i st) (hne : st.T ≠ []) : RvOk T0 (i + 1) st.on := by
  have hl : i < T0.length := by
    rcases Nat.lt_or_ge i T0.length with hl | hl
    · exact hl
    · exact absurd (by rw [h.iT, List.drop_eq_nil_of_le hl]) hne
  refine ⟨?_, hl, h.len, h.max, h.hs, Nat.le_succ_of_le h.lets, h.nams⟩
  show st.T.tail = _
  rw [h.iT, List.tail_drop]
theorem RvM.below (h : RvM T0 last wrong B p X o i N H U wh cd w) (hb : Below w.heap.size w w') : RvM T0 last wrong B p X o i N H U wh cd w' := by
  obtain ⟨vT, vN, vH, vL, h1, h2⟩ := h
  exact ⟨vT, vN, vH, vL, h1.below hb, h2⟩
theorem RvM.alloc (h : RvM T0 last wrong B p X o i N H U wh cd w) (ob : Obj) : RvM T0 last wrong B p X o i N H U wh cd (w.alloc ob) := by
  obtain ⟨vT, vN, vH, vL, h1, h2⟩ := h
  exact ⟨vT, vN, vH, vL, h1.alloc ob, h2⟩
theorem RvM.drewN (h : RvM T0 last wrong B p X o i N H U wh cd w) (n : Nat) : RvM T0 last wrong B p X o i N H U wh cd (w.drewN n) := by
  obtain ⟨vT, vN, vH, vL, h1, h2⟩ := h
  exact ⟨vT, vN, vH, vL, h1.drewN n, h2⟩
theorem RvM.blk (h : RvM T0 last wrong B p X o i N H U wh cd w) : ∃ vT vN vH vL, Blk w p 47 (rvC vT wrong last i o vN vH vL wh cd) := by
  obtain ⟨vT, vN, vH, vL, h1, h2⟩ := h
  exact ⟨vT, vN, vH, vL, h1.1 _ (List.mem_cons_self ..)⟩
theorem RvM.lt (h : RvM T0 last wrong B p X o i N H U wh cd w) : p < w.heap.size ∧ B ≤ w.heap.size ∧ B ≤ p := by
  obtain ⟨vT, vN, vH, vL, h1, h2⟩ := h
  have := Blk.lt (show Blk w p 47 _ from h1.1 _ (List.mem_cons_self ..))
  omega
theorem RvM.setB (h : RvM T0 last wrong B p X o i N H U wh cd w) (j : Nat) (v : Value) : Below B w (w.setCell ⟨p, j, none⟩ v) := (Below.refl B w).setCell (p := ⟨p, j, none⟩) h.lt.2.2 _
theorem RvM.set_i (h : RvM T0 last wrong B p X o i N H U wh cd w) (z : Nat) : RvM T0 last wrong B p X o z N H U wh cd (w.setCell ⟨p, 3, none⟩ (.int .i64 (z : Int))) := by
  obtain ⟨vT, vN, vH, vL, h1, h2⟩ := h
  refine ⟨vT, vN, vH, vL, Sep.one h1 (gb_set (gb_refl w _) 3 (.int .i64 (z : Int))) ?_ (fun k hk => .inl hk), h2⟩
  have hb := Blk.set_ (h1.1 _ (List.mem_cons_self ..)) 3 (.int .i64 (z : Int))
  exact hb
theorem RvM.cell_i (h : RvM T0 last wrong B p X o i N H U wh cd w) : w.cell? ⟨p, 3, none⟩ = some (.int .i64 ((i : Int))) ∧ w.frozen? ⟨p, 3, none⟩ = false := by
  obtain ⟨vT, vN, vH, vL, h⟩ := h.blk
  exact ⟨h.cell 3, h.frozen 3⟩
theorem RvM.set_o (h : RvM T0 last wrong B p X o i N H U wh cd w) (z : Int) : RvM T0 last wrong B p X z i N H U wh cd (w.setCell ⟨p, 4, none⟩ (.int .i64 z)) := by
  obtain ⟨vT, vN, vH, vL, h1, h2⟩ := h
  refine ⟨vT, vN, vH, vL, Sep.one h1 (gb_set (gb_refl w _) 4 (.int .i64 z)) ?_ (fun k hk => .inl hk), h2⟩
  have hb := Blk.set_ (h1.1 _ (List.mem_cons_self ..)) 4 (.int .i64 z)
  exact hb
theorem RvM.cell_o (h : RvM T0 last wrong B p X o i N H U wh cd w) : w.cell? ⟨p, 4, none⟩ = some (.int .i64 (o)) ∧ w.frozen? ⟨p, 4, none⟩ = false := by
  obtain ⟨vT, vN, vH, vL, h⟩ := h.blk
  exact ⟨h.cell 4, h.frozen 4⟩
theorem RvM.set_wh (h : RvM T0 last wrong B p X o i N H U wh cd w) (z : Nat) : RvM T0 last wrong B p X o i N H U z cd (w.setCell ⟨p, 8, none⟩ (.int .i64 (z : Int))) := by
  obtain ⟨vT, vN, vH, vL, h1, h2⟩ := h
  refine ⟨vT, vN, vH, vL, Sep.one h1 (gb_set (gb_refl w _) 8 (.int .i64 (z : Int))) ?_ (fun k hk => .inl hk), h2⟩
  have hb := Blk.set_ (h1.1 _ (List.mem_cons_self ..)) 8 (.int .i64 (z : Int))
  exact hb
theorem RvM.cell_wh (h : RvM T0 last wrong B p X o i N H U wh cd w) : w.cell? ⟨p, 8, none⟩ = some (.int .i64 ((wh : Int))) ∧ w.frozen? ⟨p, 8, none⟩ = false := by
  obtain ⟨vT, vN, vH, vL, h⟩ := h.blk
  exact ⟨h.cell 8, h.frozen 8⟩
theorem RvM.set_cd (h : RvM T0 last wrong B p X o i N H U wh cd w) (z : Nat) : RvM T0 last wrong B p X o i N H U wh z (w.setCell ⟨p, 9, none⟩ (.int .i64 (z : Int))) := by
  obtain ⟨vT, vN, vH, vL, h1, h2⟩ := h
  refine ⟨vT, vN, vH, vL, Sep.one h1 (gb_set (gb_refl w _) 9 (.int .i64 (z : Int))) ?_ (fun k hk => .inl hk), h2⟩
  have hb := Blk.set_ (h1.1 _ (List.mem_cons_self ..)) 9 (.int .i64 (z : Int))
  exact hb
theorem RvM.cell_cd (h : RvM T0 last wrong B p X o i N H U wh cd w) : w.cell? ⟨p, 9, none⟩ = some (.int .i64 ((cd : Int))) ∧ w.frozen? ⟨p, 9, none⟩ = false := by
  obtain ⟨vT, vN, vH, vL, h⟩ := h.blk
  exact ⟨h.cell 9, h.frozen 9⟩
theorem RvM.cell1 (h : RvM T0 last wrong B p X o i N H U wh cd w) : w.cell? ⟨p, 1, none⟩ = some (.int .i64 (wrN wrong : Int)) := by
  obtain ⟨vT, vN, vH, vL, h⟩ := h.blk
  exact h.cell 1
theorem RvM.cell2 (h : RvM T0 last wrong B p X o i N H U wh cd w) : w.cell? ⟨p, 2, none⟩ = some (.int .i64 (last : Int)) := by
  obtain ⟨vT, vN, vH, vL, h⟩ := h.blk
  exact h.cell 2
theorem encV_get (l : List Tok) {k : Nat} (hk : k < l.length) : (l.flatMap encV)[2 * k]? = some (.int .i64 (l[k].at_ : Int)) ∧ (l.flatMap encV)[2 * k + 1]? = some (.string (mkS l[k].text)) := by
  induction l generalizing k with
  | nil => exact absurd hk (Nat.not_lt_zero _)
  | cons a l ih =>
    rcases k with _ | k
    · exact ⟨rfl, rfl⟩
    · have := ih (k := k) (by simpa using hk)
      simp only [List.flatMap_cons, encV, List.cons_append, List.nil_append, List.getElem_cons_succ]
      rw [show 2 * (k + 1) = 2 * k + 1 + 1 from by omega]
      simp only [List.getElem?_cons_succ]
      exact this
theorem RvM.toks (h : RvM T0 last wrong B p X o i N H U wh cd w) : ∃ A c, w.cell? ⟨p, 0, none⟩ = some (.slice A T0.length c) ∧ (∀ (k : Nat) (hk : k < T0.length), ∃ g, A = some ⟨g, 0, none⟩ ∧ w.cell? ⟨g, k * 2, none⟩ = some (.int .i64 (T0[k].at_ : Int)) ∧ w.cell? ⟨g, k * 2 + 1, none⟩ = some (.string (mkS T0[k].text))) := by
  obtain ⟨vT, vN, vH, vL, h1, h2⟩ := h
  have hb : Blk w p 47 (rvC vT wrong last i o vN vH vL wh cd) := h1.1 _ (List.mem_cons_self ..)
  have hr : w.ownsRow B 67 2 vT T0.length (T0.flatMap encV) := h1.1 (itRow B 67 2 vT T0.length (T0.flatMap encV)) (by simp)
  obtain ⟨A, c, rfl, -, hA⟩ := own_form hr
  refine ⟨A, c, hb.cell 0, fun k hk => ?_⟩
  obtain ⟨g, rfl⟩ := hA (by omega)
  have h3 := encV_get T0 hk
  refine ⟨g, rfl, ?_, ?_⟩
  · rw [World.ownsRow.cellAt hr (k * 2) (by omega), Nat.mul_comm k 2]
    exact h3.1
  · rw [World.ownsRow.cellAt hr (k * 2 + 1) (by omega), Nat.mul_comm k 2]
    exact h3.2
set_option maxRecDepth 100000 in
/-- fault: the first one -/
theorem rvFault (a c : Nat) (h : RvM T0 last wrong B p X o i N H U wh 0 w) : Calls Tryz.prog 30 #[.pointer (some ⟨p, 0, none⟩), .int .i64 (a : Int), .int .i64 (c : Int)] w (fun e w' => e = .returned (.tuple #[]) ∧ RvM T0 last wrong B p X o i N H U a c w' ∧ Below B w w') := by
  obtain ⟨c9, f9⟩ := h.cell_cd
  obtain ⟨c8, f8⟩ := h.cell_wh
  have hM := Lib.hid ((h.set_wh a).set_cd c)
  have hB := Lib.hid ((h.setB 8 (.int .i64 (a : Int))).trans ((h.set_wh a).setB 9 (.int .i64 (c : Int))))
  obtain ⟨c9b, f9b⟩ := (h.set_wh a).cell_cd
  clear h
  go_enter Tryz.func30, Tryz.ntmps30
  go_wp2_with fail
  go_end0
  exact ⟨rfl, hM.out, hB.out⟩
set_option maxRecDepth 100000 in
theorem rvFault1 (z d : Int) (c : Nat) (hc : c ≠ 0) (h : RvM T0 last wrong B p X o i N H U wh c w) : Calls Tryz.prog 30 #[.pointer (some ⟨p, 0, none⟩), .int .i64 z, .int .i64 d] w (fun e w' => e = .returned (.tuple #[]) ∧ w' = w) := by
  obtain ⟨c9, f9⟩ := h.cell_cd
  have hcI : ((c : Int) == 0) = false := k_ne (b := 0) hc
  clear h hc
  go_enter Tryz.func30, Tryz.ntmps30
  go_wp2_with fail
  go_end0
  exact ⟨rfl, rfl⟩
set_option maxRecDepth 100000 in
theorem rvText (hT : T0.length ≤ 16384) (h : RvM T0 last wrong B p X o i N H U wh cd w) : Calls Tryz.prog 13 #[.pointer (some ⟨p, 0, none⟩)] w (fun e w' => e = .returned (.string (mkS (txA T0 i))) ∧ Dr w w') := by
  obtain ⟨c3, -⟩ := h.cell_i
  have c2 := h.cell2
  obtain ⟨A, c, c0, hk⟩ := h.toks
  by_cases hi : i < T0.length
  case pos =>
    obtain ⟨g, rfl, k1, k2⟩ := hk i hi
    have hiI : (i : Int) < (T0.length : Int) := by omega
    have e : txA T0 i = T0[i].text := by unfold txA; rw [List.getElem?_eq_getElem hi]
    rw [e]
    obtain ⟨v, hv⟩ : ∃ v, v = T0[i].text := ⟨_, rfl⟩
    rw [← hv]
    rw [← hv] at k2
    obtain ⟨n, hn⟩ : ∃ n, n = T0.length := ⟨_, rfl⟩
    rw [← hn] at c0 hiI hT
    replace hn := Lib.hid hn
    replace hv := Lib.hid hv
    replace hv := Lib.hid hv.out
    clear e hk h k1
    go_enter Tryz.func13, Tryz.ntmps13
    go_upto_region 1 with fail
    go_quiet (fail)
    go_upto_region 2 with fail
    go_quiet (fail)
    go_wp2_with fail
    go_ret
    exact ⟨rfl, ((Dr.refl w).drewN _).drewN _⟩
  case neg =>
    have hiI : ¬ (i : Int) < (T0.length : Int) := by omega
    have e : txA T0 i = [] := by unfold txA; rw [List.getElem?_eq_none (by omega)]
    rw [e]
    obtain ⟨n, hn⟩ : ∃ n, n = T0.length := ⟨_, rfl⟩
    rw [← hn] at c0 hiI hT
    replace hn := Lib.hid hn
    clear e hk h hi
    go_enter Tryz.func13, Tryz.ntmps13
    go_upto_region 1 with fail
    go_quiet (fail)
    go_wp2_with fail
    go_ret
    exact ⟨rfl, ⟨_, rfl⟩⟩
set_option maxRecDepth 100000 in
theorem rvPlace (hT : T0.length ≤ 16384) (h : RvM T0 last wrong B p X o i N H U wh cd w) : Calls Tryz.prog 31 #[.pointer (some ⟨p, 0, none⟩)] w (fun e w' => e = .returned (.int .i64 (plA T0 last i : Int)) ∧ Dr w w') := by
  obtain ⟨c3, -⟩ := h.cell_i
  have c2 := h.cell2
  obtain ⟨A, c, c0, hk⟩ := h.toks
  by_cases hi : i < T0.length
  case pos =>
    obtain ⟨g, rfl, k1, k2⟩ := hk i hi
    have hiI : (i : Int) < (T0.length : Int) := by omega
    have e : plA T0 last i = T0[i].at_ := by unfold plA; rw [List.getElem?_eq_getElem hi]
    rw [e]
    obtain ⟨v, hv⟩ : ∃ v, v = T0[i].at_ := ⟨_, rfl⟩
    rw [← hv]
    rw [← hv] at k1
    obtain ⟨n, hn⟩ : ∃ n, n = T0.length := ⟨_, rfl⟩
    rw [← hn] at c0 hiI hT
    replace hn := Lib.hid hn
    replace hv := Lib.hid hv
    replace hv := Lib.hid hv.out
    clear e hk h k2
    go_enter Tryz.func31, Tryz.ntmps31
    go_upto_region 1 with fail
    go_quiet (fail)
    go_upto_region 2 with fail
    go_quiet (fail)
    go_wp2_with fail
    go_ret
    exact ⟨rfl, ((Dr.refl w).drewN _).drewN _⟩
  case neg =>
    have hiI : ¬ (i : Int) < (T0.length : Int) := by omega
    have e : plA T0 last i = last := by unfold plA; rw [List.getElem?_eq_none (by omega)]
    rw [e]
    obtain ⟨n, hn⟩ : ∃ n, n = T0.length := ⟨_, rfl⟩
    rw [← hn] at c0 hiI hT
    replace hn := Lib.hid hn
    clear e hk h hi
    go_enter Tryz.func31, Tryz.ntmps31
    go_upto_region 1 with fail
    go_quiet (fail)
    go_wp2_with fail
    go_ret
    exact ⟨rfl, ⟨_, rfl⟩⟩
set_option maxRecDepth 100000 in
/-- want -/
theorem rvWant (hT : TkOk T0 last) (h : RvM T0 last wrong B p X o i st.N st.H U wh 0 w) (hk : RvOk T0 i st) {α : Type} {a c : Nat} (hu : (unwP last wrong st : PR α) = .no a c) : Calls Tryz.prog 16 #[.pointer (some ⟨p, 0, none⟩)] w (fun e w' => e = .returned (.tuple #[]) ∧ RvF T0 last wrong B p X U a c w' ∧ Below B w w' ∧ c ≠ 0) := by
  have cF0 := fun (a c : Nat) (W : World) (hb : Below w.heap.size w W) => rvFault a c (h.below hb)
  have cP := Lib.hid (fun (W : World) (hb : Below w.heap.size w W) => rvPlace hT.tl (h.below hb))
  have hM := Lib.hid (fun (W : World) (hb : Below w.heap.size w W) => h.below hb)
  have hBs := Lib.hid h.lt.2.1
  obtain ⟨c3, -⟩ := h.cell_i
  have c1 := h.cell1
  have c2 := h.cell2
  obtain ⟨A, cc, c0, -⟩ := h.toks
  have hTl := hT.tl
  have e : a = plA T0 last i ∧ c = (if (decide (T0.length ≤ i) && wrong) = true then 110 else 111) := by
    have e1 := hk.pl (last := last)
    unfold unwP at hu
    unfold PS.pl at e1
    have hT2 := hk.iT
    rcases hh : st.T with _ | ⟨t, T⟩
    · rw [hh] at hu e1 hT2
      injection hu with e3 e2
      have hl : T0.length ≤ i := by
        rcases Nat.lt_or_ge i T0.length with hl | hl
        · rw [List.drop_eq_getElem_cons hl] at hT2; cases hT2
        · exact hl
      exact ⟨by rw [← e3]; exact e1, by rw [← e2, decide_eq_true hl]; rfl⟩
    · rw [hh] at hu e1 hT2
      injection hu with e3 e2
      have hl : ¬ T0.length ≤ i := fun hl => by rw [List.drop_eq_nil_of_le hl] at hT2; cases hT2
      exact ⟨by rw [← e3]; exact e1, by rw [← e2, decide_eq_false hl]; rfl⟩
  have hfin : Hid (∀ w', RvM T0 last wrong B p X o i st.N st.H U a c w' → RvF T0 last wrong B p X U a c w') := Lib.hid (fun w' h => ⟨_, _, _, _, h⟩)
  by_cases hi : T0.length ≤ i
  case pos =>
    have hl : plA T0 last i = last := by unfold plA; rw [List.getElem?_eq_none hi]
    have hiI : (T0.length : Int) ≤ (i : Int) := by omega
    cases wrong
    · have e2 : c = 111 := by rw [e.2]; simp
      rw [e2] at hfin ⊢
      rw [← e.1] at cP
      have cF := Lib.hid (cF0 a 111)
      rw [show ((wrN false : Nat) : Int) = 0 from rfl] at c1
      obtain ⟨n, hn⟩ : ∃ n, n = T0.length := ⟨_, rfl⟩
      rw [← hn] at c0 hiI hTl
      replace hn := Lib.hid hn
      clear cF0 e e2 hu hk h hi hl
      go_enter Tryz.func16, Tryz.ntmps16
      go_upto_region 0 with fail
      go_quiet (fail)
      have hb1 := Lib.hid (bl_drewN (Below.refl w.heap.size w) nq)
      generalize w.drewN nq = w1 at hb1 ⊢
      go_wp2_with fail
      refine (cP.out _ hb1.out).mono ?_
      rintro en w2 ⟨rfl, hdr⟩
      have hb2 := Lib.hid (hb1.out.trans (hdr.below _))
      clear hdr
      go_wp2_with fail
      refine (cF.out _ hb2.out).mono ?_
      rintro en w3 ⟨rfl, h3, hB⟩
      replace hB := Lib.hid ((hb2.out.mono hBs.out).trans hB)
      replace h3 := Lib.hid h3
      go_wp2_with fail
      go_end0
      exact ⟨rfl, hfin.out _ h3.out, hB.out, by decide⟩
    · have e2 : c = 110 := by rw [e.2, decide_eq_true hi]; rfl
      rw [e2] at hfin ⊢
      have e1 := e.1.trans hl
      have cF := Lib.hid (cF0 a 110)
      rw [e1] at cF hfin ⊢
      rw [show ((wrN true : Nat) : Int) = 110 from rfl] at c1
      obtain ⟨n, hn⟩ : ∃ n, n = T0.length := ⟨_, rfl⟩
      rw [← hn] at c0 hiI hTl
      replace hn := Lib.hid hn
      clear cF0 e e1 e2 hu hk h hi hl
      go_enter Tryz.func16, Tryz.ntmps16
      go_upto_region 0 with fail
      go_quiet (fail)
      have hb1 := Lib.hid (bl_drewN (Below.refl w.heap.size w) nq)
      generalize w.drewN nq = w1 at hb1 ⊢
      have q1 : ∀ d os, (grow (redrawn w1 d) os).cell? ⟨p, 1, none⟩ = some (.int .i64 110) := cell_regrown (hM.out _ hb1.out).cell1
      have q2 : ∀ d os, (grow (redrawn w1 d) os).cell? ⟨p, 2, none⟩ = some (.int .i64 (last : Int)) := cell_regrown (hM.out _ hb1.out).cell2
      go_upto_region 1 with fail
      refine wp_region_tail_below 9 (by kernel_rfl) (by kernel_rfl) ?_
      simp only [List.take_succ_cons, List.take_zero, List.drop_succ_cons, List.drop_zero]
      iterate 9 (quiet_step (fail))
      refine wpQuiet_nil ?_
      intro w2 hbw
      have hb2 := Lib.hid (hb1.out.trans (hbw.mono hb1.out.size))
      clear hbw q1 q2
      go_wp2_with fail
      refine (cF.out _ hb2.out).mono ?_
      rintro en w3 ⟨rfl, h3, hB⟩
      replace hB := Lib.hid ((hb2.out.mono hBs.out).trans hB)
      replace h3 := Lib.hid h3
      go_wp2_with fail
      go_end0
      exact ⟨rfl, hfin.out _ h3.out, hB.out, by decide⟩
  case neg =>
    have e2 : c = 111 := by rw [e.2, decide_eq_false hi]; rfl
    have hiI : ¬ (T0.length : Int) ≤ (i : Int) := by omega
    rw [e2] at hfin ⊢
    rw [← e.1] at cP
    have cF := Lib.hid (cF0 a 111)
    obtain ⟨n, hn⟩ : ∃ n, n = T0.length := ⟨_, rfl⟩
    rw [← hn] at c0 hiI hTl
    replace hn := Lib.hid hn
    clear cF0 e e2 hu hk h hi c1
    go_enter Tryz.func16, Tryz.ntmps16
    go_upto_region 0 with fail
    go_quiet (fail)
    have hb1 := Lib.hid (bl_drewN (Below.refl w.heap.size w) nq)
    generalize w.drewN nq = w1 at hb1 ⊢
    go_wp2_with fail
    refine (cP.out _ hb1.out).mono ?_
    rintro en w2 ⟨rfl, hdr⟩
    have hb2 := Lib.hid (hb1.out.trans (hdr.below _))
    clear hdr
    go_wp2_with fail
    refine (cF.out _ hb2.out).mono ?_
    rintro en w3 ⟨rfl, h3, hB⟩
    replace hB := Lib.hid ((hb2.out.mono hBs.out).trans hB)
    replace h3 := Lib.hid h3
    go_wp2_with fail
    go_end0
    exact ⟨rfl, hfin.out _ h3.out, hB.out, by decide⟩
set_option maxRecDepth 100000 in
/-- want, behind a fault -/
theorem rvWant1 (hT : TkOk T0 last) (hcd : cd ≠ 0) (h : RvM T0 last wrong B p X o i N H U wh cd w) : Calls Tryz.prog 16 #[.pointer (some ⟨p, 0, none⟩)] w (fun e w' => e = .returned (.tuple #[]) ∧ Below w.heap.size w w') := by
  have cF := Lib.hid (fun (W : World) (hb : Below w.heap.size w W) (z d : Int) => rvFault1 z d cd hcd (h.below hb))
  have cP := Lib.hid (fun (W : World) (hb : Below w.heap.size w W) => rvPlace hT.tl (h.below hb))
  have hM := Lib.hid (fun (W : World) (hb : Below w.heap.size w W) => h.below hb)
  obtain ⟨c3, -⟩ := h.cell_i
  have c1 := h.cell1
  have c2 := h.cell2
  obtain ⟨A, cc, c0, -⟩ := h.toks
  have hTl := hT.tl
  by_cases hi : T0.length ≤ i
  case pos =>
    have hiI : (T0.length : Int) ≤ (i : Int) := by omega
    cases wrong
    · rw [show ((wrN false : Nat) : Int) = 0 from rfl] at c1
      obtain ⟨n, hn⟩ : ∃ n, n = T0.length := ⟨_, rfl⟩
      rw [← hn] at c0 hiI hTl
      replace hn := Lib.hid hn
      clear h hcd hi
      go_enter Tryz.func16, Tryz.ntmps16
      go_upto_region 0 with fail
      go_quiet (fail)
      have hb1 := Lib.hid (bl_drewN (Below.refl w.heap.size w) nq)
      generalize w.drewN nq = w1 at hb1 ⊢
      go_wp2_with fail
      refine (cP.out _ hb1.out).mono ?_
      rintro en w2 ⟨rfl, hdr⟩
      have hb2 := Lib.hid (hb1.out.trans (hdr.below _))
      clear hdr
      go_wp2_with fail
      refine (cF.out _ hb2.out _ _).mono ?_
      rintro en w3 ⟨rfl, rfl⟩
      go_wp2_with fail
      go_end0
      exact ⟨rfl, hb2.out⟩
    · rw [show ((wrN true : Nat) : Int) = 110 from rfl] at c1
      obtain ⟨n, hn⟩ : ∃ n, n = T0.length := ⟨_, rfl⟩
      rw [← hn] at c0 hiI hTl
      replace hn := Lib.hid hn
      clear h hcd hi
      go_enter Tryz.func16, Tryz.ntmps16
      go_upto_region 0 with fail
      go_quiet (fail)
      have hb1 := Lib.hid (bl_drewN (Below.refl w.heap.size w) nq)
      generalize w.drewN nq = w1 at hb1 ⊢
      have q1 : ∀ d os, (grow (redrawn w1 d) os).cell? ⟨p, 1, none⟩ = some (.int .i64 110) := cell_regrown (hM.out _ hb1.out).cell1
      have q2 : ∀ d os, (grow (redrawn w1 d) os).cell? ⟨p, 2, none⟩ = some (.int .i64 (last : Int)) := cell_regrown (hM.out _ hb1.out).cell2
      go_upto_region 1 with fail
      refine wp_region_tail_below 9 (by kernel_rfl) (by kernel_rfl) ?_
      simp only [List.take_succ_cons, List.take_zero, List.drop_succ_cons, List.drop_zero]
      iterate 9 (quiet_step (fail))
      refine wpQuiet_nil ?_
      intro w2 hbw
      have hb2 := Lib.hid (hb1.out.trans (hbw.mono hb1.out.size))
      clear hbw q1 q2
      go_wp2_with fail
      refine (cF.out _ hb2.out _ _).mono ?_
      rintro en w3 ⟨rfl, rfl⟩
      go_wp2_with fail
      go_end0
      exact ⟨rfl, hb2.out⟩
  case neg =>
    have hiI : ¬ (T0.length : Int) ≤ (i : Int) := by omega
    obtain ⟨n, hn⟩ : ∃ n, n = T0.length := ⟨_, rfl⟩
    rw [← hn] at c0 hiI hTl
    replace hn := Lib.hid hn
    clear h hcd hi c1
    go_enter Tryz.func16, Tryz.ntmps16
    go_upto_region 0 with fail
    go_quiet (fail)
    have hb1 := Lib.hid (bl_drewN (Below.refl w.heap.size w) nq)
    generalize w.drewN nq = w1 at hb1 ⊢
    go_wp2_with fail
    refine (cP.out _ hb1.out).mono ?_
    rintro en w2 ⟨rfl, hdr⟩
    have hb2 := Lib.hid (hb1.out.trans (hdr.below _))
    clear hdr
    go_wp2_with fail
    refine (cF.out _ hb2.out _ _).mono ?_
    rintro en w3 ⟨rfl, rfl⟩
    go_wp2_with fail
    go_end0
    exact ⟨rfl, hb2.out⟩
end
end Go.Proofs.YtnaadajcehfmiaaGreatDoor
