/- lang: one, two. -/
import Derived.Test.YtnaadajcehfmiaaGreatDoorLrD
import Derived.Test.YtnaadajcehfmiaaGreatDoorLxT
namespace Go.Proofs.YtnaadajcehfmiaaGreatDoor
open Go.RowKit Go.Sort Go.Maps

section
variable {s : ByteArray} {last : Nat} {wrong : Bool} {B p gm o : Nat} {X : List It} {st : PS} {w w' : World}
theorem RdS.drewN (h : RdS s last wrong B p gm X o st w) (n : Nat) : RdS s last wrong B p gm X o st (w.drewN n) := by
  obtain ⟨nx, vN, vL, vH, D, h1, h2⟩ := h
  exact ⟨nx, vN, vL, vH, D, h1.drewN n, h2⟩
theorem PostN.pre {w0 : World} {r : PR Nat} {e : Ending} (h : PostN s last wrong B p gm X o st w r e w') (hb : Below B w0 w) : PostN s last wrong B p gm X o st w0 r e w' := by
  cases r with
  | ok v st' =>
    obtain ⟨h1, h2, h3, h4⟩ := h
    exact ⟨h1, h2, hb.trans h3, h4⟩
  | no a c => exact PanF.pre h hb
theorem encH_get (l : List Nat) {k : Nat} (hk : k < l.length) : (l.flatMap encH)[k]? = some (.int .i64 (l.getD k 0 : Int)) := by
  induction l generalizing k with
  | nil => exact absurd hk (Nat.not_lt_zero _)
  | cons a l ih =>
    rcases k with _ | k
    · rfl
    · have := ih (k := k) (by simpa using hk)
      simpa [List.flatMap_cons, encH] using this
/-- How high the parts are, in memory. -/
theorem RdS.high (h : RdS s last wrong B p gm X o st w) {k : Nat} (hk : k < st.N.length) : ∃ (g c : Nat), w.cell? ⟨p, 9, none⟩ = some (.slice (some ⟨g, 0, none⟩) st.N.length c) ∧ st.N.length ≤ 4096 ∧ (∀ j, j < st.N.length → w.cell? ⟨g, j, none⟩ = some (.int .i64 (st.hi j : Int))) ∧ (∀ j, st.hi j ≤ 64) := by
  obtain ⟨nx, vN, vL, vH, D, h1, h2, h3, h4, h5⟩ := h
  have hb : Blk w p 42 (rdC s (st.pl last) (mkS st.tx) (st.T.isEmpty && wrong) nx o vN vL vH gm) := h1.1 _ (List.mem_cons_self ..)
  have hr : w.ownsRow B 3 1 vH st.H.length (st.H.flatMap encH) := h1.1 (itRow B 3 1 vH st.H.length (st.H.flatMap encH)) (by simp)
  obtain ⟨A, c, rfl, -, hA⟩ := own_form hr
  obtain ⟨g, rfl⟩ := hA (by rw [h3.len]; omega)
  refine ⟨g, c, ?_, h3.max, fun j hj => ?_, fun j => ?_⟩
  · rw [← h3.len]
    exact hb.cell 9
  · rw [World.ownsRow.cellAt hr j (by rw [h3.len]; omega)]
    exact encH_get _ (by rw [h3.len]; exact hj)
  · unfold PS.hi
    rcases Nat.lt_or_ge j st.H.length with hj | hj
    · rw [List.getD_eq_getElem?_getD, List.getElem?_eq_getElem hj]
      exact h3.hs _ (List.getElem_mem hj)
    · rw [List.getD_eq_getElem?_getD, List.getElem?_eq_none hj]; exact Nat.zero_le _
set_option maxRecDepth 100000 in
set_option maxHeartbeats 4000000 in
/-- one -/
theorem one_rd (n : Nod) (at_ : Nat) (h : RdS s last wrong B p gm X o st w) (hna : n.a < st.N.length) :
    Calls Tryz.prog 78 #[.pointer (some ⟨p, 0, none⟩), .agg #[.int .u8 (n.kind : Int), .string (mkS n.text), .int .i64 (n.a : Int), .int .i64 (n.b : Int), .int .i64 (n.n : Int)], .int .i64 (at_ : Int)] w (PostN s last wrong B p gm X o st w (addP n (1 + st.hi n.a) at_ st)) := by
  obtain ⟨g, c, c9, hm, hc, h64⟩ := h.high hna
  obtain ⟨N0, hN0⟩ : ∃ k, k = st.N.length := ⟨_, rfl⟩
  rw [← hN0] at c9 hm hna
  have e1 := hc _ (by rw [← hN0]; exact hna)
  
  have k1 := h64 n.a
  
  have hlt := h.lt
  have hbx := Blk.new w 52 #[.int .u8 (n.kind : Int), .string (mkS n.text), .int .i64 (n.a : Int), .int .i64 (n.b : Int), .int .i64 (n.n : Int)]
  have hBW := Lib.hid ((Below.refl B w).alloc hlt.2 (.cells #[.int .u8 (n.kind : Int), .string (mkS n.text), .int .i64 (n.a : Int), .int .i64 (n.b : Int), .int .i64 (n.n : Int)] 52))
  have hp9 : (w.alloc (.cells #[.int .u8 (n.kind : Int), .string (mkS n.text), .int .i64 (n.a : Int), .int .i64 (n.b : Int), .int .i64 (n.n : Int)] 52)).cell? ⟨p, 9, none⟩ = some (.slice (some ⟨g, 0, none⟩) N0 c) := Lib.cell?_alloc_some _ c9
  have he1 : (w.alloc (.cells #[.int .u8 (n.kind : Int), .string (mkS n.text), .int .i64 (n.a : Int), .int .i64 (n.b : Int), .int .i64 (n.n : Int)] 52)).cell? ⟨g, n.a, none⟩ = some (.int .i64 (st.hi n.a : Int)) := Lib.cell?_alloc_some _ e1
  
  have cA0 := fun W (hb : Below (w.alloc (.cells #[.int .u8 (n.kind : Int), .string (mkS n.text), .int .i64 (n.a : Int), .int .i64 (n.b : Int), .int .i64 (n.n : Int)] 52)).heap.size (w.alloc (.cells #[.int .u8 (n.kind : Int), .string (mkS n.text), .int .i64 (n.a : Int), .int .i64 (n.b : Int), .int .i64 (n.n : Int)] 52)) W) => add_rd n (1 + st.hi n.a) at_ ((h.alloc (.cells #[.int .u8 (n.kind : Int), .string (mkS n.text), .int .i64 (n.a : Int), .int .i64 (n.b : Int), .int .i64 (n.n : Int)] 52)).below hb) (by omega)
  have hB1 : B ≤ (w.alloc (.cells #[.int .u8 (n.kind : Int), .string (mkS n.text), .int .i64 (n.a : Int), .int .i64 (n.b : Int), .int .i64 (n.n : Int)] 52)).heap.size := Nat.le_trans hlt.2 hBW.out.size
  obtain ⟨x1, hx1⟩ : ∃ k, k = st.hi n.a := ⟨_, rfl⟩
  
  obtain ⟨r, hr⟩ : ∃ r, r = addP n (1 + st.hi n.a) at_ st := ⟨_, rfl⟩
  simp only [← hr] at cA0
  rw [← hr]
  rw [← hx1] at he1 k1
  simp only [← hx1] at cA0
  
  
  generalize hW : w.alloc (.cells #[.int .u8 (n.kind : Int), .string (mkS n.text), .int .i64 (n.a : Int), .int .i64 (n.b : Int), .int .i64 (n.n : Int)] 52) = w1 at hp9 he1  hbx hBW cA0 hB1 ⊢
  replace hx1 := Lib.hid hx1
  
  replace hr := Lib.hid hr
  have b0 : ∀ d os, (grow (redrawn w1 d) os).cell? ⟨w.heap.size, 0, none⟩ = some (.int .u8 (n.kind : Int)) := cell_regrown (hbx.cell 0)
  have b1 : ∀ d os, (grow (redrawn w1 d) os).cell? ⟨w.heap.size, 1, none⟩ = some (.string (mkS n.text)) := cell_regrown (hbx.cell 1)
  have b2 : ∀ d os, (grow (redrawn w1 d) os).cell? ⟨w.heap.size, 2, none⟩ = some (.int .i64 (n.a : Int)) := cell_regrown (hbx.cell 2)
  have b3 : ∀ d os, (grow (redrawn w1 d) os).cell? ⟨w.heap.size, 3, none⟩ = some (.int .i64 (n.b : Int)) := cell_regrown (hbx.cell 3)
  have b4 : ∀ d os, (grow (redrawn w1 d) os).cell? ⟨w.heap.size, 4, none⟩ = some (.int .i64 (n.n : Int)) := cell_regrown (hbx.cell 4)
  have q9 : ∀ d os, (grow (redrawn w1 d) os).cell? ⟨p, 9, none⟩ = some (.slice (some ⟨g, 0, none⟩) N0 c) := cell_regrown hp9
  have q1 : ∀ d os, (grow (redrawn w1 d) os).cell? ⟨g, n.a, none⟩ = some (.int .i64 (x1 : Int)) := cell_regrown he1
  
  have hnaI : (n.a : Int) < (N0 : Int) := by omega
  
  have hwx : IntKind.i64.wrap (1 + (x1 : Int)) = ((1 + x1 : Nat) : Int) := by rw [IntKind.wrap_i64]; omega
  replace hW := Lib.hid hW
  replace hN0 := Lib.hid hN0
  clear c9 e1  hc h64 hbx k1  h
  go_enter Tryz.func78, Tryz.ntmps78
  go_upto_region 1 with fail
  rw [hW.out]
  have hq : ((1 + x1 : Nat) : Int) = 1 + (x1 : Int) := by omega
  simp only [hq] at cA0
  have cA : Hid (∀ W, Below w1.heap.size w1 W → Calls Tryz.prog 76 #[.pointer (some ⟨p, 0, none⟩), .agg #[.int .u8 (n.kind : Int), .string (mkS n.text), .int .i64 (n.a : Int), .int .i64 (n.b : Int), .int .i64 (n.n : Int)], .int .i64 (1 + (x1 : Int)), .int .i64 (at_ : Int)] W (PostN s last wrong B p gm X o st w r)) := Lib.hid (fun W hb => (cA0 W hb).mono (fun e w' h => PostN.pre h (hBW.out.trans (hb.mono hB1))))
  rw [hq] at hwx
  clear hq cA0
  refine wp_region_tail_below 12 (by kernel_rfl) (by kernel_rfl) ?_
  simp only [List.take_succ_cons, List.take_zero, List.drop_succ_cons, List.drop_zero]
  iterate 12 (quiet_step (fail))
  refine wpQuiet_nil ?_
  intro w2 hb2
  replace cA := Lib.hid (cA.out _ hb2)
  clear hb2 q9 q1  b0 b1 b2 b3 b4
  rcases r with ⟨v, st'⟩ | ⟨a, c'⟩
  · go_wp2_with fail
    refine cA.out.mono ?_
    rintro en w5 ⟨rfl, hp⟩
    replace hp := Lib.hid hp
    go_wp2_with fail
    go_ret
    exact ⟨rfl, hp.out⟩
  · go_wp2_with fail
    refine cA.out.mono ?_
    rintro en w5 ⟨q, rfl, hq⟩
    exact ⟨rfl, q, rfl, hq⟩
set_option maxRecDepth 100000 in
set_option maxHeartbeats 4000000 in
/-- two -/
theorem two_rd (n : Nod) (at_ : Nat) (h : RdS s last wrong B p gm X o st w) (hna : n.a < st.N.length) (hnb : n.b < st.N.length) :
    Calls Tryz.prog 66 #[.pointer (some ⟨p, 0, none⟩), .agg #[.int .u8 (n.kind : Int), .string (mkS n.text), .int .i64 (n.a : Int), .int .i64 (n.b : Int), .int .i64 (n.n : Int)], .int .i64 (at_ : Int)] w (PostN s last wrong B p gm X o st w (addP n (1 + max (st.hi n.a) (st.hi n.b)) at_ st)) := by
  obtain ⟨g, c, c9, hm, hc, h64⟩ := h.high hna
  obtain ⟨N0, hN0⟩ : ∃ k, k = st.N.length := ⟨_, rfl⟩
  rw [← hN0] at c9 hm hna hnb
  have e1 := hc _ (by rw [← hN0]; exact hna)
  have e2 := hc _ (by rw [← hN0]; exact hnb)
  have k1 := h64 n.a
  have k2 := h64 n.b
  have hlt := h.lt
  have hbx := Blk.new w 52 #[.int .u8 (n.kind : Int), .string (mkS n.text), .int .i64 (n.a : Int), .int .i64 (n.b : Int), .int .i64 (n.n : Int)]
  have hBW := Lib.hid ((Below.refl B w).alloc hlt.2 (.cells #[.int .u8 (n.kind : Int), .string (mkS n.text), .int .i64 (n.a : Int), .int .i64 (n.b : Int), .int .i64 (n.n : Int)] 52))
  have hp9 : (w.alloc (.cells #[.int .u8 (n.kind : Int), .string (mkS n.text), .int .i64 (n.a : Int), .int .i64 (n.b : Int), .int .i64 (n.n : Int)] 52)).cell? ⟨p, 9, none⟩ = some (.slice (some ⟨g, 0, none⟩) N0 c) := Lib.cell?_alloc_some _ c9
  have he1 : (w.alloc (.cells #[.int .u8 (n.kind : Int), .string (mkS n.text), .int .i64 (n.a : Int), .int .i64 (n.b : Int), .int .i64 (n.n : Int)] 52)).cell? ⟨g, n.a, none⟩ = some (.int .i64 (st.hi n.a : Int)) := Lib.cell?_alloc_some _ e1
  have he2 : (w.alloc (.cells #[.int .u8 (n.kind : Int), .string (mkS n.text), .int .i64 (n.a : Int), .int .i64 (n.b : Int), .int .i64 (n.n : Int)] 52)).cell? ⟨g, n.b, none⟩ = some (.int .i64 (st.hi n.b : Int)) := Lib.cell?_alloc_some _ e2
  have cA0 := fun W (hb : Below (w.alloc (.cells #[.int .u8 (n.kind : Int), .string (mkS n.text), .int .i64 (n.a : Int), .int .i64 (n.b : Int), .int .i64 (n.n : Int)] 52)).heap.size (w.alloc (.cells #[.int .u8 (n.kind : Int), .string (mkS n.text), .int .i64 (n.a : Int), .int .i64 (n.b : Int), .int .i64 (n.n : Int)] 52)) W) => add_rd n (1 + max (st.hi n.a) (st.hi n.b)) at_ ((h.alloc (.cells #[.int .u8 (n.kind : Int), .string (mkS n.text), .int .i64 (n.a : Int), .int .i64 (n.b : Int), .int .i64 (n.n : Int)] 52)).below hb) (by omega)
  have hB1 : B ≤ (w.alloc (.cells #[.int .u8 (n.kind : Int), .string (mkS n.text), .int .i64 (n.a : Int), .int .i64 (n.b : Int), .int .i64 (n.n : Int)] 52)).heap.size := Nat.le_trans hlt.2 hBW.out.size
  obtain ⟨x1, hx1⟩ : ∃ k, k = st.hi n.a := ⟨_, rfl⟩
  obtain ⟨x2, hx2⟩ : ∃ k, k = st.hi n.b := ⟨_, rfl⟩
  obtain ⟨r, hr⟩ : ∃ r, r = addP n (1 + max (st.hi n.a) (st.hi n.b)) at_ st := ⟨_, rfl⟩
  simp only [← hr] at cA0
  rw [← hr]
  rw [← hx1] at he1 k1
  simp only [← hx1] at cA0
  rw [← hx2] at he2 k2
  simp only [← hx2] at cA0
  generalize hW : w.alloc (.cells #[.int .u8 (n.kind : Int), .string (mkS n.text), .int .i64 (n.a : Int), .int .i64 (n.b : Int), .int .i64 (n.n : Int)] 52) = w1 at hp9 he1 he2 hbx hBW cA0 hB1 ⊢
  replace hx1 := Lib.hid hx1
  replace hx2 := Lib.hid hx2
  replace hr := Lib.hid hr
  have b0 : ∀ d os, (grow (redrawn w1 d) os).cell? ⟨w.heap.size, 0, none⟩ = some (.int .u8 (n.kind : Int)) := cell_regrown (hbx.cell 0)
  have b1 : ∀ d os, (grow (redrawn w1 d) os).cell? ⟨w.heap.size, 1, none⟩ = some (.string (mkS n.text)) := cell_regrown (hbx.cell 1)
  have b2 : ∀ d os, (grow (redrawn w1 d) os).cell? ⟨w.heap.size, 2, none⟩ = some (.int .i64 (n.a : Int)) := cell_regrown (hbx.cell 2)
  have b3 : ∀ d os, (grow (redrawn w1 d) os).cell? ⟨w.heap.size, 3, none⟩ = some (.int .i64 (n.b : Int)) := cell_regrown (hbx.cell 3)
  have b4 : ∀ d os, (grow (redrawn w1 d) os).cell? ⟨w.heap.size, 4, none⟩ = some (.int .i64 (n.n : Int)) := cell_regrown (hbx.cell 4)
  have q9 : ∀ d os, (grow (redrawn w1 d) os).cell? ⟨p, 9, none⟩ = some (.slice (some ⟨g, 0, none⟩) N0 c) := cell_regrown hp9
  have q1 : ∀ d os, (grow (redrawn w1 d) os).cell? ⟨g, n.a, none⟩ = some (.int .i64 (x1 : Int)) := cell_regrown he1
  have q2 : ∀ d os, (grow (redrawn w1 d) os).cell? ⟨g, n.b, none⟩ = some (.int .i64 (x2 : Int)) := cell_regrown he2
  have hnaI : (n.a : Int) < (N0 : Int) := by omega
  have hnbI : (n.b : Int) < (N0 : Int) := by omega
  have hwx : IntKind.i64.wrap (1 + (max x1 x2 : Int)) = ((1 + max x1 x2 : Nat) : Int) := by rw [IntKind.wrap_i64]; omega
  replace hW := Lib.hid hW
  replace hN0 := Lib.hid hN0
  clear c9 e1 e2 hc h64 hbx k1 k2 h
  go_enter Tryz.func66, Tryz.ntmps66
  go_upto_region 1 with fail
  rw [hW.out]
  have hq : ((1 + max x1 x2 : Nat) : Int) = 1 + max (x1 : Int) (x2 : Int) := by (rcases Nat.le_total x1 x2 with h | h; (· rw [Nat.max_eq_right h, Int.max_eq_right (by omega)]; omega); (· rw [Nat.max_eq_left h, Int.max_eq_left (by omega)]; omega))
  simp only [hq] at cA0
  have cA : Hid (∀ W, Below w1.heap.size w1 W → Calls Tryz.prog 76 #[.pointer (some ⟨p, 0, none⟩), .agg #[.int .u8 (n.kind : Int), .string (mkS n.text), .int .i64 (n.a : Int), .int .i64 (n.b : Int), .int .i64 (n.n : Int)], .int .i64 (1 + max (x1 : Int) (x2 : Int)), .int .i64 (at_ : Int)] W (PostN s last wrong B p gm X o st w r)) := Lib.hid (fun W hb => (cA0 W hb).mono (fun e w' h => PostN.pre h (hBW.out.trans (hb.mono hB1))))
  rw [hq] at hwx
  clear hq cA0
  refine wp_region_tail_below 21 (by kernel_rfl) (by kernel_rfl) ?_
  simp only [List.take_succ_cons, List.take_zero, List.drop_succ_cons, List.drop_zero]
  iterate 21 (quiet_step (fail))
  refine wpQuiet_nil ?_
  intro w2 hb2
  replace cA := Lib.hid (cA.out _ hb2)
  clear hb2 q9 q1 q2 b0 b1 b2 b3 b4
  rcases r with ⟨v, st'⟩ | ⟨a, c'⟩
  · go_wp2_with fail
    refine cA.out.mono ?_
    rintro en w5 ⟨rfl, hp⟩
    replace hp := Lib.hid hp
    go_wp2_with fail
    go_ret
    exact ⟨rfl, hp.out⟩
  · go_wp2_with fail
    refine cA.out.mono ?_
    rintro en w5 ⟨q, rfl, hq⟩
    exact ⟨rfl, q, rfl, hq⟩
end
end Go.Proofs.YtnaadajcehfmiaaGreatDoor
