import Derived.Test.YtnaadajcehfmiaaGreatDoorLrK
import Derived.Laws.Pointers
/- lang: Parse's deferred closure. -/
namespace Go.Proofs.YtnaadajcehfmiaaGreatDoor
open Go.RowKit Go.Sort Go.Maps

set_option maxRecDepth 100000 in
theorem catch_idle (g2 g3 : Nat) (w : World) :
    CallsD Tryz.prog 9 #[.pointer (some ⟨g2, 0, none⟩), .pointer (some ⟨g3, 0, none⟩)] .returning w fun e u' w' => e = .returned (.tuple #[]) ∧ u' = .returning ∧ w' = w := by
  refine callsD_of_wpS Tryz.func9 rfl fun c₀ cs hu => ?_
  apply wpS_seq
  apply wpS_region
  simp [wpOpsS, go_sem, recoverD, hu, Tryz.ntmps9, Exit.thenS]
  refine wpS_of_wp ?_
  go_wp2_with fail
  cases c₀
  simp_all [bodyPostS, results, Tryz.results9]
theorem assert_tf (v : Value) (w : World) : (Instr.typeAssert (.iface 26 v) 20 26 true).run Tryz.prog w = .ok (.tuple #[v, .bool true]) w := by kernel_rfl
set_option maxRecDepth 100000 in
theorem catch_fault (g2 g3 q : Nat) (vN vL : Value) (m : Int) (vf : Value) (w : World) (k2 : Blk w g2 25 #[vN, vL, .int .i64 m]) (k3 : Blk w g3 26 #[vf]) (hne : ¬ g2 = g3) :
    CallsD Tryz.prog 9 #[.pointer (some ⟨g2, 0, none⟩), .pointer (some ⟨g3, 0, none⟩)] (.panicking [{ v := .iface 26 (.pointer (some ⟨q, 0, none⟩)), recovered := false }]) w fun e u' w' =>
      e = .returned (.tuple #[]) ∧ u' = .panicking [{ v := .iface 26 (.pointer (some ⟨q, 0, none⟩)), recovered := true }] ∧
      w' = ((((w.setCell ⟨g2, 0, none⟩ (.slice none 0 0)).setCell ⟨g2, 1, none⟩ (.slice none 0 0)).setCell ⟨g2, 2, none⟩ (.int .i64 0)).setCell ⟨g3, 0, none⟩ (.pointer (some ⟨q, 0, none⟩))) := by
  have a0 : w.cell? ⟨g2, 0, none⟩ = some vN := k2.cell 0
  have a1 : w.cell? ⟨g2, 1, none⟩ = some vL := k2.cell 1
  have a2 : w.cell? ⟨g2, 2, none⟩ = some (.int .i64 m) := k2.cell 2
  have a3 : w.cell? ⟨g3, 0, none⟩ = some vf := k3.cell 0
  have f0 := k2.frozen 0
  have f1 := k2.frozen 1
  have f2 := k2.frozen 2
  have f3 := k3.frozen 0
  have hne2 : ¬ g3 = g2 := fun e => hne e.symm
  clear k2 k3
  refine callsD_of_wpS Tryz.func9 rfl fun c₀ cs hu => ?_
  apply wpS_seq
  apply wpS_region
  simp [wpOpsS, go_sem, recoverD, hu, Tryz.ntmps9, Exit.thenS]
  refine wpS_of_wp ?_
  have hta := assert_tf
  simp only [Array.replicate_succ, Array.replicate_zero, List.push_toArray, List.append_toArray, List.nil_append, List.cons_append, List.setIfInBounds_toArray, List.set_cons_succ, List.set_cons_zero]
  go_wp2_with fail
  cases c₀
  simp_all [bodyPostS, results, Tryz.results9]
end Go.Proofs.YtnaadajcehfmiaaGreatDoor
/- lang: Parse. -/
namespace Go.Proofs.YtnaadajcehfmiaaGreatDoor
open Go.RowKit Go.Sort Go.Maps

theorem sep_far {w w' : World} {l : List It} (h : Sep w l) {g : Nat} (hl : ∀ a, a ∈ l → ∀ k, a.own = some k → k ≠ g) (hg : w.grownBy w' (some g)) : Sep w' l :=
  ⟨fun a ha => a.keep (h.1 a ha) hg (by
    rcases ho : a.own with _ | k
    · exact .inl rfl
    · exact .inr (fun e => hl a ha k ho (by injection e))), h.2⟩
theorem leaves_none {P : Program} {fn : Func} {tmps : Array Value} {R : Ending → World → Prop} {W : World} {v : Value} (hr : (results fn tmps).run P W = .ok v W) (h : R (.returned v) W) : Leaves P fn tmps R [] .returning W := ⟨v, hr, h⟩
/-- What a text says: its parts, or the first fault. -/
def parseT (s : List Nat) (r : PR Nat) : Prop :=
  (16384 < s.length ∧ r = .no 0 4) ∨ (s.length ≤ 16384 ∧ ∃ T last wrong, Lx s 0 T last wrong ∧ progP T last wrong = some r)
/-- Parts in memory, in new blocks. -/
def PrgW (B : Nat) (v : Value) (m : Nat) (st : PS) (w : World) : Prop :=
  ∃ vN vL, v = .agg #[vN, vL, .int .i64 (m : Int)] ∧ Sep w [itRow B 52 5 vN st.N.length (st.N.flatMap encN), itRow B 54 2 vL st.L.length (st.L.flatMap encL)] ∧ m < st.N.length ∧ st.N.length ≤ 4096 ∧ st.L.length ≤ 16385
def RetParse (w : World) (r : PR Nat) (e : Ending) (w' : World) : Prop :=
  match r with
  | .ok m st' => (∃ v, e = .returned (.tuple #[v, .pointer none]) ∧ PrgW w.heap.size v m st' w') ∧ Below w.heap.size w w'
  | .no a c => (∃ q, e = .returned (.tuple #[.agg #[.slice none 0 0, .slice none 0 0, .int .i64 0], .pointer (some ⟨q, 0, none⟩)]) ∧ w.heap.size ≤ q ∧ Blk w' q 33 #[.int .i64 (a : Int), .int .i64 (c : Int)]) ∧ Below w.heap.size w w'
set_option maxRecDepth 100000 in
set_option maxHeartbeats 8000000 in
/-- lang.Parse -/
theorem lParse_any (s : ByteArray) (w : World) (hs : s.size ≤ 140737488355328) (he1 : (itErr 4).P w) (he2 : (itErr 5).P w) (r : PR Nat) (hr : parseT (sl s) r) :
    Calls Tryz.prog 4 #[.string s] w (RetParse w r) := by
  have hlen := sl_len s
  have hmf : ∀ (fn : Fn) (first cap : Array Value) (w : World), (Instr.makeFunc fn first cap).run Tryz.prog w = .ok (.func fn first cap) w := fun _ _ _ _ => rfl
  have kp := (Blk.new w 25 #[.slice none 0 0, .slice none 0 0, .int .i64 0]).alloc (.cells #[.pointer none] 26)
  have kf := Blk.new (w.alloc (.cells #[.slice none 0 0, .slice none 0 0, .int .i64 0] 25)) 26 #[.pointer none]
  rw [World.size_alloc] at kf
  have hB2 : Below w.heap.size w ((w.alloc (.cells #[.slice none 0 0, .slice none 0 0, .int .i64 0] 25)).alloc (.cells #[.pointer none] 26)) := ((Below.refl _ w).alloc (Nat.le_refl _) _).alloc (by simp) _
  have hz2 : ((w.alloc (.cells #[.slice none 0 0, .slice none 0 0, .int .i64 0] 25)).alloc (.cells #[.pointer none] 26)).heap.size = w.heap.size + 1 + 1 := by simp
  rcases hr with ⟨hl, rfl⟩ | ⟨hl, T, last, wrong, hx, hp⟩
  case inl =>
    have hlI : (16384 : Int) < (s.size : Int) := by omega
    have kpH := Lib.hid kp
    have kfH := Lib.hid kf
    replace hB2 := Lib.hid hB2
    replace hz2 := Lib.hid hz2
    replace hlen := Lib.hid hlen
    clear kp kf
    go_enter_defers Tryz.func4, Tryz.ntmps4
    go_upto_region 1 with fail
    generalize hW : ((w.alloc (.cells #[.slice none 0 0, .slice none 0 0, .int .i64 0] 25)).alloc (.cells #[.pointer none] 26)) = w2 at kpH kfH hB2 hz2 ⊢
    clear hW
    have a0 : w2.cell? ⟨w.heap.size, 0, none⟩ = some (.slice none 0 0) := kpH.out.cell 0
    have a1 : w2.cell? ⟨w.heap.size, 1, none⟩ = some (.slice none 0 0) := kpH.out.cell 1
    have a2 : w2.cell? ⟨w.heap.size, 2, none⟩ = some (.int .i64 0) := kpH.out.cell 2
    have b0 : w2.cell? ⟨w.heap.size + 1, 0, none⟩ = some (.pointer none) := kfH.out.cell 0
    have f0 := kpH.out.frozen 0
    have f1 := kpH.out.frozen 1
    have f2 := kpH.out.frozen 2
    have f3 := kfH.out.frozen 0
    have kpq := kpH.out.alloc (.cells #[.int .i64 0, .int .i64 4] 33)
    have kfq := kfH.out.alloc (.cells #[.int .i64 0, .int .i64 4] 33)
    have a0q : (w2.alloc (.cells #[.int .i64 0, .int .i64 4] 33)).cell? ⟨w.heap.size, 0, none⟩ = some (.slice none 0 0) := kpq.cell 0
    have a1q : (w2.alloc (.cells #[.int .i64 0, .int .i64 4] 33)).cell? ⟨w.heap.size, 1, none⟩ = some (.slice none 0 0) := kpq.cell 1
    have a2q : (w2.alloc (.cells #[.int .i64 0, .int .i64 4] 33)).cell? ⟨w.heap.size, 2, none⟩ = some (.int .i64 0) := kpq.cell 2
    have b0q : (w2.alloc (.cells #[.int .i64 0, .int .i64 4] 33)).cell? ⟨w.heap.size + 1, 0, none⟩ = some (.pointer none) := kfq.cell 0
    have f0q := kpq.frozen 0
    have f1q := kpq.frozen 1
    have f2q := kpq.frozen 2
    have f3q := kfq.frozen 0
    replace kpq := Lib.hid kpq
    replace kfq := Lib.hid kfq
    have hne : ¬ w.heap.size = w.heap.size + 1 := by omega
    have hne2 : ¬ w.heap.size + 1 = w.heap.size := by omega
    go_wp2_with fail
    have K2 : Blk (((((w2.alloc (.cells #[.int .i64 0, .int .i64 4] 33)).setCell ⟨w.heap.size, 0, none⟩ (.slice none 0 0)).setCell ⟨w.heap.size, 1, none⟩ (.slice none 0 0)).setCell ⟨w.heap.size, 2, none⟩ (.int .i64 0)).setCell ⟨w.heap.size + 1, 0, none⟩ (.pointer (some ⟨w2.heap.size, 0, none⟩))) w.heap.size 25 #[.slice none 0 0, .slice none 0 0, .int .i64 0] := by
      have h := (((((kpH.out.alloc (.cells #[.int .i64 0, .int .i64 4] 33)).set_ 0 (.slice none 0 0)).set_ 1 (.slice none 0 0)).set_ 2 (.int .i64 0)).far (p := ⟨w.heap.size + 1, 0, none⟩) (by simp) (.pointer (some ⟨w2.heap.size, 0, none⟩)))
      exact h
    have K3 : Blk (((((w2.alloc (.cells #[.int .i64 0, .int .i64 4] 33)).setCell ⟨w.heap.size, 0, none⟩ (.slice none 0 0)).setCell ⟨w.heap.size, 1, none⟩ (.slice none 0 0)).setCell ⟨w.heap.size, 2, none⟩ (.int .i64 0)).setCell ⟨w.heap.size + 1, 0, none⟩ (.pointer (some ⟨w2.heap.size, 0, none⟩))) (w.heap.size + 1) 26 #[.pointer (some ⟨w2.heap.size, 0, none⟩)] := by
      have h := (((((kfH.out.alloc (.cells #[.int .i64 0, .int .i64 4] 33)).far (p := ⟨w.heap.size, 0, none⟩) (by simp) (.slice none 0 0)).far (p := ⟨w.heap.size, 1, none⟩) (by simp) (.slice none 0 0)).far (p := ⟨w.heap.size, 2, none⟩) (by simp) (.int .i64 0)).set_ 0 (.pointer (some ⟨w2.heap.size, 0, none⟩)))
      exact h
    have KQ : Blk (((((w2.alloc (.cells #[.int .i64 0, .int .i64 4] 33)).setCell ⟨w.heap.size, 0, none⟩ (.slice none 0 0)).setCell ⟨w.heap.size, 1, none⟩ (.slice none 0 0)).setCell ⟨w.heap.size, 2, none⟩ (.int .i64 0)).setCell ⟨w.heap.size + 1, 0, none⟩ (.pointer (some ⟨w2.heap.size, 0, none⟩))) w2.heap.size 33 #[.int .i64 0, .int .i64 4] := (((((Blk.new w2 33 #[.int .i64 0, .int .i64 4]).far (p := ⟨w.heap.size, 0, none⟩) (by have := hz2.out; simp; omega) (.slice none 0 0)).far (p := ⟨w.heap.size, 1, none⟩) (by have := hz2.out; simp; omega) (.slice none 0 0)).far (p := ⟨w.heap.size, 2, none⟩) (by have := hz2.out; simp; omega) (.int .i64 0)).far (p := ⟨w.heap.size + 1, 0, none⟩) (by have := hz2.out; simp; omega) (.pointer (some ⟨w2.heap.size, 0, none⟩)))
    have HB : Below w.heap.size w (((((w2.alloc (.cells #[.int .i64 0, .int .i64 4] 33)).setCell ⟨w.heap.size, 0, none⟩ (.slice none 0 0)).setCell ⟨w.heap.size, 1, none⟩ (.slice none 0 0)).setCell ⟨w.heap.size, 2, none⟩ (.int .i64 0)).setCell ⟨w.heap.size + 1, 0, none⟩ (.pointer (some ⟨w2.heap.size, 0, none⟩))) := (((((hB2.out.alloc hB2.out.size (.cells #[.int .i64 0, .int .i64 4] 33)).setCell (p := ⟨w.heap.size, 0, none⟩) (by simp) (.slice none 0 0)).setCell (p := ⟨w.heap.size, 1, none⟩) (by simp) (.slice none 0 0)).setCell (p := ⟨w.heap.size, 2, none⟩) (by simp) (.int .i64 0)).setCell (p := ⟨w.heap.size + 1, 0, none⟩) (by simp) (.pointer (some ⟨w2.heap.size, 0, none⟩)))
    have c0 := K2.cell 0
    have c1 := K2.cell 1
    have c2 := K2.cell 2
    have c3 := K3.cell 0
    refine leaves_none (P := Tryz.prog) (fn := Tryz.f4) (v := .tuple #[.agg #[.slice none 0 0, .slice none 0 0, .int .i64 0], .pointer (some ⟨w2.heap.size, 0, none⟩)]) (by simp [results, Tryz.results4, go_sem, c0, c1, c2, c3]) ⟨⟨_, rfl, hB2.out.size, KQ⟩, HB⟩
  case inr =>
    have hlI : ¬ (16384 : Int) < (s.size : Int) := by omega
    have hsz : s.size ≤ 16384 := by omega
    have hmm := @run_makeMap Tryz.prog
    have e1' : (itErr 4).P ((w.alloc (.cells #[.slice none 0 0, .slice none 0 0, .int .i64 0] 25)).alloc (.cells #[.pointer none] 26)) := (itErr 4).keep he1 (gb_of hB2 none) (.inr (by simp [itErr]))
    have e2' : (itErr 5).P ((w.alloc (.cells #[.slice none 0 0, .slice none 0 0, .int .i64 0] 25)).alloc (.cells #[.pointer none] 26)) := (itErr 5).keep he2 (gb_of hB2 none) (.inr (by simp [itErr]))
    have hg5 : 5 < w.heap.size ∧ 4 < w.heap.size := ⟨(itErr 5).lt he2 rfl, (itErr 4).lt he1 rfl⟩
    have kpH := Lib.hid kp
    have kfH := Lib.hid kf
    replace hB2 := Lib.hid hB2
    replace hlen := Lib.hid hlen
    replace hx := Lib.hid hx
    replace hp := Lib.hid hp
    replace e1' := Lib.hid e1'
    replace e2' := Lib.hid e2'
    replace hg5 := Lib.hid hg5
    clear kp kf he1 he2
    go_enter_defers Tryz.func4, Tryz.ntmps4
    go_upto_region 1 with fail
    generalize hW : ((w.alloc (.cells #[.slice none 0 0, .slice none 0 0, .int .i64 0] 25)).alloc (.cells #[.pointer none] 26)) = w2 at kpH kfH hB2 hz2 e1' e2' ⊢
    clear hW
    have hz2H := Lib.hid hz2
    clear hz2
    go_upto_region 5 with fail
    have kb := Blk.new (w2.alloc (.map #[] 0)) 42 #[.string s, .int .i64 0, .string ⟨#[]⟩, .bool false, .int .i64 0, .int .i64 0, .slice none 0 0, .slice none 0 0, .int .i64 0, .slice none 0 0, .map (some w2.heap.size)]
    have hM : ((w2.alloc (.map #[] 0)).alloc (.cells #[.string s, .int .i64 0, .string ⟨#[]⟩, .bool false, .int .i64 0, .int .i64 0, .slice none 0 0, .slice none 0 0, .int .i64 0, .slice none 0 0, .map (some w2.heap.size)] 42)).ownsMap Tryz.prog 9 (plainElem (H := Unit) Tryz.prog 4) w2.heap.size 0 (.map []) := World.ownsMap.kept (World.ownsMap_made w2 _ _ _) (World.grownBy_alloc _ _ none) (by simp)
    have hB4 : Below w2.heap.size w2 ((w2.alloc (.map #[] 0)).alloc (.cells #[.string s, .int .i64 0, .string ⟨#[]⟩, .bool false, .int .i64 0, .int .i64 0, .slice none 0 0, .slice none 0 0, .int .i64 0, .slice none 0 0, .map (some w2.heap.size)] 42)) := ((Below.refl _ w2).alloc (Nat.le_refl _) _).alloc (by simp) _
    rw [World.size_alloc] at kb
    generalize hW : ((w2.alloc (.map #[] 0)).alloc (.cells #[.string s, .int .i64 0, .string ⟨#[]⟩, .bool false, .int .i64 0, .int .i64 0, .slice none 0 0, .slice none 0 0, .int .i64 0, .slice none 0 0, .map (some w2.heap.size)] 42)) = w4 at kb hM hB4 ⊢
    clear hW hmm
    have cO := on_any (w2.heap.size + 1) s 0 ⟨#[]⟩ false 0 0 (.slice none 0 0) (.slice none 0 0) (.slice none 0 0) w2.heap.size w4 (by omega) (by omega) kb
    replace cO := Lib.hid cO
    replace hM := Lib.hid hM
    replace hB4 := Lib.hid hB4
    clear kb
    go_wp2_with fail
    refine cO.out.mono ?_
    rintro en w5 ⟨rfl, fr', tk', bd', nx', hO, hK, hg⟩
    obtain ⟨st0, hst0⟩ : ∃ q, q = PS.mk T [] [] [] := ⟨_, rfl⟩
    obtain ⟨q1, q2, q3, q4⟩ := Lx.head hx.out hO [] [] []
    have hBl : Below w2.heap.size w2 w5 := hB4.out.trans ⟨hg.os, hg.tape, hg.output, hg.size, fun k hk => hg.block k (by have := hB4.out.size; omega) (fun e => by injection e with e; omega)⟩
    have hR : RdS s last wrong w2.heap.size (w2.heap.size + 1) w2.heap.size ([itBlk w.heap.size 25 #[.slice none 0 0, .slice none 0 0, .int .i64 0], itBlk (w.heap.size + 1) 26 #[.pointer none]]) 0 st0 w5 := by
      refine ⟨nx', .slice none 0 0, .slice none 0 0, .slice none 0 0, .map [], ?_, ?_, ?_, by omega, Nat.le_refl _⟩
      · rw [hst0]
        rw [q1, q2, q3] at hK
        have g5 := hg5.out
        have z2 := hz2H.out
        refine ⟨fun a ha => ?_, ?_⟩
        · simp only [List.mem_append, List.mem_cons, List.not_mem_nil, or_false] at ha
          rcases ha with (rfl | rfl | rfl | rfl | rfl | rfl | rfl) | rfl | rfl
          · exact hK
          · exact World.ownsRow_nil _ _ _ _
          · exact World.ownsRow_nil _ _ _ _
          · exact World.ownsRow_nil _ _ _ _
          · exact World.ownsMap.kept hM.out hg (by simp)
          · exact (itErr 4).keep e1'.out (gb_of hBl none) (.inr (by simp [itErr]))
          · exact (itErr 5).keep e2'.out (gb_of hBl none) (.inr (by simp [itErr]))
          · exact Blk.below kpH.out hBl
          · exact Blk.below kfH.out hBl
        · simp only [List.cons_append, List.nil_append, List.pairwise_cons, List.mem_cons, List.not_mem_nil, or_false, Far]
          simp [itBlk, itRow, itMap, itErr, Value.ownBlock]
          omega
      · rw [hst0]
        exact ⟨isMap_empty, fun t ht => rfl⟩
      · rw [hst0]
        have hne := hx.out.ne
        have hla := hx.out.last
        have hl9 := hlen.out
        refine ⟨hsz, q4, fun t ht => ?_, by omega, rfl, Nat.zero_le _, (fun h hh => by cases hh), Nat.zero_le _, (fun t ht => by cases ht)⟩
        obtain ⟨n1, n2, n3, k, n4, n5, n6⟩ := hne t ht
        exact ⟨n1, by omega, (by rw [n4]; exact byt_cut), by omega⟩
    have cT := text_rd hsz hR (by rw [hst0]; have := hx.out.len; rw [hlen.out] at this; show 0 + T.length ≤ 16385; omega) r (T.length + 1) (by rw [hst0]; exact hp.out)
    replace cT := Lib.hid cT
    replace hBl := Lib.hid hBl
    clear hR hK hg hO q1 q2 q3 q4 hst0 hM hB4 cO
    go_wp2_with fail
    refine cT.out.mono ?_
    clear cT
    rcases r with ⟨m, st'⟩ | ⟨a, c⟩
    case no =>
      rintro en w6 ⟨q, rfl, hqB, hQ, hB6⟩
      have hB26 : Below w2.heap.size w2 w6 := hBl.out.trans hB6
      have K2 : Blk w6 w.heap.size 25 #[.slice none 0 0, .slice none 0 0, .int .i64 0] := Blk.below kpH.out hB26
      have K3 : Blk w6 (w.heap.size + 1) 26 #[.pointer none] := Blk.below kfH.out hB26
      have z2 := hz2H.out
      refine leaves_cons (f := 9) (args := #[.pointer (some ⟨w.heap.size, 0, none⟩), .pointer (some ⟨w.heap.size + 1, 0, none⟩)]) (by simp) (by simp [go_sem]) ?_
      refine (catch_fault w.heap.size (w.heap.size + 1) q _ _ _ _ w6 K2 K3 (by omega)).mono ?_
      rintro e u' w7 ⟨rfl, rfl, rfl⟩
      have HB : Below w.heap.size w w6 := hB2.out.trans (hB26.mono (by omega))
      have K2f : Blk ((((w6.setCell ⟨w.heap.size, 0, none⟩ (.slice none 0 0)).setCell ⟨w.heap.size, 1, none⟩ (.slice none 0 0)).setCell ⟨w.heap.size, 2, none⟩ (.int .i64 0)).setCell ⟨w.heap.size + 1, 0, none⟩ (.pointer (some ⟨q, 0, none⟩))) w.heap.size 25 #[.slice none 0 0, .slice none 0 0, .int .i64 0] := by
        have h := ((((K2.set_ 0 (.slice none 0 0)).set_ 1 (.slice none 0 0)).set_ 2 (.int .i64 0)).far (p := ⟨w.heap.size + 1, 0, none⟩) (by simp) (.pointer (some ⟨q, 0, none⟩)))
        exact h
      have K3f : Blk ((((w6.setCell ⟨w.heap.size, 0, none⟩ (.slice none 0 0)).setCell ⟨w.heap.size, 1, none⟩ (.slice none 0 0)).setCell ⟨w.heap.size, 2, none⟩ (.int .i64 0)).setCell ⟨w.heap.size + 1, 0, none⟩ (.pointer (some ⟨q, 0, none⟩))) (w.heap.size + 1) 26 #[.pointer (some ⟨q, 0, none⟩)] := by
        have h := ((((K3.far (p := ⟨w.heap.size, 0, none⟩) (by simp) (.slice none 0 0)).far (p := ⟨w.heap.size, 1, none⟩) (by simp) (.slice none 0 0)).far (p := ⟨w.heap.size, 2, none⟩) (by simp) (.int .i64 0)).set_ 0 (.pointer (some ⟨q, 0, none⟩)))
        exact h
      have KQ : Blk ((((w6.setCell ⟨w.heap.size, 0, none⟩ (.slice none 0 0)).setCell ⟨w.heap.size, 1, none⟩ (.slice none 0 0)).setCell ⟨w.heap.size, 2, none⟩ (.int .i64 0)).setCell ⟨w.heap.size + 1, 0, none⟩ (.pointer (some ⟨q, 0, none⟩))) q 33 #[.int .i64 (a : Int), .int .i64 (c : Int)] := ((((hQ.far (p := ⟨w.heap.size, 0, none⟩) (by simp; omega) (.slice none 0 0)).far (p := ⟨w.heap.size, 1, none⟩) (by simp; omega) (.slice none 0 0)).far (p := ⟨w.heap.size, 2, none⟩) (by simp; omega) (.int .i64 0)).far (p := ⟨w.heap.size + 1, 0, none⟩) (by simp; omega) (.pointer (some ⟨q, 0, none⟩)))
      have HBf : Below w.heap.size w ((((w6.setCell ⟨w.heap.size, 0, none⟩ (.slice none 0 0)).setCell ⟨w.heap.size, 1, none⟩ (.slice none 0 0)).setCell ⟨w.heap.size, 2, none⟩ (.int .i64 0)).setCell ⟨w.heap.size + 1, 0, none⟩ (.pointer (some ⟨q, 0, none⟩))) := ((((HB.setCell (p := ⟨w.heap.size, 0, none⟩) (by simp) (.slice none 0 0)).setCell (p := ⟨w.heap.size, 1, none⟩) (by simp) (.slice none 0 0)).setCell (p := ⟨w.heap.size, 2, none⟩) (by simp) (.int .i64 0)).setCell (p := ⟨w.heap.size + 1, 0, none⟩) (by simp) (.pointer (some ⟨q, 0, none⟩)))
      have c0 := K2f.cell 0
      have c1 := K2f.cell 1
      have c2 := K2f.cell 2
      have c3 := K3f.cell 0
      refine leaves_none (P := Tryz.prog) (fn := Tryz.f4) (v := .tuple #[.agg #[.slice none 0 0, .slice none 0 0, .int .i64 0], .pointer (some ⟨q, 0, none⟩)]) (by simp [results, Tryz.results4, go_sem, c0, c1, c2, c3]) ⟨⟨q, rfl, by omega, KQ⟩, HBf⟩
    case ok =>
      rintro en w6 ⟨rfl, ⟨vN, vL, d6, d7, d8, hS⟩, hB6, hm, hN9, hL9⟩
      have hB26 : Below w2.heap.size w2 w6 := hBl.out.trans hB6
      have K2 : Blk w6 w.heap.size 25 #[.slice none 0 0, .slice none 0 0, .int .i64 0] := Blk.below kpH.out hB26
      have K3 : Blk w6 (w.heap.size + 1) 26 #[.pointer none] := Blk.below kfH.out hB26
      obtain ⟨AN, cN, rfl, -, -⟩ := own_form (hS.1 (itRow w2.heap.size 52 5 vN st'.N.length (st'.N.flatMap encN)) (by simp))
      obtain ⟨AL, cL, rfl, -, -⟩ := own_form (hS.1 (itRow w2.heap.size 54 2 vL st'.L.length (st'.L.flatMap encL)) (by simp))
      obtain ⟨nN, hnN⟩ : ∃ n, n = st'.N.length := ⟨_, rfl⟩
      obtain ⟨nL, hnL⟩ : ∃ n, n = st'.L.length := ⟨_, rfl⟩
      have HB : Below w.heap.size w w6 := hB2.out.trans (hB26.mono (by have := hz2H.out; omega))
      rw [← hnN, ← hnL] at hS
      rw [← hnN] at d6
      rw [← hnL] at d7
      have a0 : w6.cell? ⟨w.heap.size, 0, none⟩ = some (.slice none 0 0) := K2.cell 0
      have a1 : w6.cell? ⟨w.heap.size, 1, none⟩ = some (.slice none 0 0) := K2.cell 1
      have a2 : w6.cell? ⟨w.heap.size, 2, none⟩ = some (.int .i64 0) := K2.cell 2
      have b0 : w6.cell? ⟨w.heap.size + 1, 0, none⟩ = some (.pointer none) := K3.cell 0
      have f0 := K2.frozen 0
      have f1 := K2.frozen 1
      have f2 := K2.frozen 2
      have f3 := K3.frozen 0
      have hne : ¬ w.heap.size = w.heap.size + 1 := by omega
      have hne2 : ¬ w.heap.size + 1 = w.heap.size := by omega
      replace hS := Lib.hid hS
      replace K2 := Lib.hid K2
      replace K3 := Lib.hid K3
      replace HB := Lib.hid HB
      replace hm := Lib.hid hm
      replace hnN := Lib.hid hnN
      replace hnL := Lib.hid hnL
      clear hB26 hB6
      go_wp2_with fail
      have K2f : Blk ((((w6.setCell ⟨w.heap.size, 0, none⟩ (.slice AN nN cN)).setCell ⟨w.heap.size, 1, none⟩ (.slice AL nL cL)).setCell ⟨w.heap.size, 2, none⟩ (.int .i64 (m : Int))).setCell ⟨w.heap.size + 1, 0, none⟩ (.pointer none)) w.heap.size 25 #[.slice AN nN cN, .slice AL nL cL, .int .i64 (m : Int)] := by
        have h := ((((K2.out.set_ 0 (.slice AN nN cN)).set_ 1 (.slice AL nL cL)).set_ 2 (.int .i64 (m : Int))).far (p := ⟨w.heap.size + 1, 0, none⟩) (by simp) (.pointer none))
        exact h
      have K3f : Blk ((((w6.setCell ⟨w.heap.size, 0, none⟩ (.slice AN nN cN)).setCell ⟨w.heap.size, 1, none⟩ (.slice AL nL cL)).setCell ⟨w.heap.size, 2, none⟩ (.int .i64 (m : Int))).setCell ⟨w.heap.size + 1, 0, none⟩ (.pointer none)) (w.heap.size + 1) 26 #[.pointer none] := by
        have h := ((((K3.out.far (p := ⟨w.heap.size, 0, none⟩) (by simp) (.slice AN nN cN)).far (p := ⟨w.heap.size, 1, none⟩) (by simp) (.slice AL nL cL)).far (p := ⟨w.heap.size, 2, none⟩) (by simp) (.int .i64 (m : Int))).set_ 0 (.pointer none))
        exact h
      have HBf : Below w.heap.size w ((((w6.setCell ⟨w.heap.size, 0, none⟩ (.slice AN nN cN)).setCell ⟨w.heap.size, 1, none⟩ (.slice AL nL cL)).setCell ⟨w.heap.size, 2, none⟩ (.int .i64 (m : Int))).setCell ⟨w.heap.size + 1, 0, none⟩ (.pointer none)) := ((((HB.out.setCell (p := ⟨w.heap.size, 0, none⟩) (by simp) (.slice AN nN cN)).setCell (p := ⟨w.heap.size, 1, none⟩) (by simp) (.slice AL nL cL)).setCell (p := ⟨w.heap.size, 2, none⟩) (by simp) (.int .i64 (m : Int))).setCell (p := ⟨w.heap.size + 1, 0, none⟩) (by simp) (.pointer none))
      have S1 : Sep ((((w6.setCell ⟨w.heap.size, 0, none⟩ (.slice AN nN cN)).setCell ⟨w.heap.size, 1, none⟩ (.slice AL nL cL)).setCell ⟨w.heap.size, 2, none⟩ (.int .i64 (m : Int))).setCell ⟨w.heap.size + 1, 0, none⟩ (.pointer none)) [itRow w2.heap.size 52 5 (.slice AN nN cN) nN (st'.N.flatMap encN), itRow w2.heap.size 54 2 (.slice AL nL cL) nL (st'.L.flatMap encL)] := by
        have s0 : Sep w6 [itRow w2.heap.size 52 5 (.slice AN nN cN) nN (st'.N.flatMap encN), itRow w2.heap.size 54 2 (.slice AL nL cL) nL (st'.L.flatMap encL)] := hS.out.sub (List.sublist_append_left _ _)
        have z2 := hz2H.out
        have s1 := sep_far s0 (g := w.heap.size) (fun a ha k hk => by
          simp only [List.mem_cons, List.not_mem_nil, or_false] at ha
          rcases ha with rfl | rfl
          · have := (World.ownsRow.lt (s0.1 _ (List.mem_cons_self ..)) k hk).1; omega
          · have := (World.ownsRow.lt (s0.1 (itRow w2.heap.size 54 2 (.slice AL nL cL) nL (st'.L.flatMap encL)) (by simp)) k hk).1; omega) (gb_set (gb_set (gb_set (gb_refl w6 (some w.heap.size)) 0 (.slice AN nN cN)) 1 (.slice AL nL cL)) 2 (.int .i64 (m : Int)))
        exact sep_far s1 (g := w.heap.size + 1) (fun a ha k hk => by
          simp only [List.mem_cons, List.not_mem_nil, or_false] at ha
          rcases ha with rfl | rfl
          · have := (World.ownsRow.lt (s0.1 _ (List.mem_cons_self ..)) k hk).1; omega
          · have := (World.ownsRow.lt (s0.1 (itRow w2.heap.size 54 2 (.slice AL nL cL) nL (st'.L.flatMap encL)) (by simp)) k hk).1; omega) (gb_set (gb_refl _ _) 0 (.pointer none))
      have c0 := K2f.cell 0
      have c1 := K2f.cell 1
      have c2 := K2f.cell 2
      have c3 := K3f.cell 0
      refine leaves_cons (f := 9) (args := #[.pointer (some ⟨w.heap.size, 0, none⟩), .pointer (some ⟨w.heap.size + 1, 0, none⟩)]) (by simp) (by simp [go_sem]) ?_
      refine (catch_idle w.heap.size (w.heap.size + 1) _).mono ?_
      rintro e u' w7 ⟨rfl, rfl, rfl⟩
      refine leaves_none (P := Tryz.prog) (fn := Tryz.f4) (v := .tuple #[.agg #[.slice AN nN cN, .slice AL nL cL, .int .i64 (m : Int)], .pointer none]) (by simp [results, Tryz.results4, go_sem, c0, c1, c2, c3]) ⟨⟨_, rfl, _, _, rfl, ?_, hm.out, hN9, hL9⟩, HBf⟩
      rw [← hnN.out, ← hnL.out]
      exact ⟨fun a ha => by
        simp only [List.mem_cons, List.not_mem_nil, or_false] at ha
        rcases ha with rfl | rfl
        · exact row_mono (S1.1 _ (List.mem_cons_self ..)) (by have := hz2H.out; omega)
        · exact row_mono (S1.1 (itRow w2.heap.size 54 2 (.slice AL nL cL) nL (st'.L.flatMap encL)) (by simp)) (by have := hz2H.out; omega), by
        obtain ⟨p1, -⟩ := List.pairwise_cons.1 S1.2
        refine List.pairwise_cons.2 ⟨fun b hb => ?_, List.pairwise_singleton _ _⟩
        rw [List.mem_singleton.1 hb]
        intro k h1 h2
        exact p1 _ (List.mem_singleton.2 rfl) k h1 h2⟩
end Go.Proofs.YtnaadajcehfmiaaGreatDoor
