/- lang: Parse's deferred closure. -/
import Derived.Test.YtnaadajcehfmiaaDoorLrK
import Derived.Laws.Pointers
namespace Go.Proofs.YtnaadajcehfmiaaDoor
open Go.RowKit Go.Sort Go.Maps

set_option maxRecDepth 100000 in
theorem catch_idle (g2 g3 : Nat) (w : World) :
    CallsD Tryd.prog 12 #[.pointer (some ⟨g2, 0, none⟩), .pointer (some ⟨g3, 0, none⟩)] .returning w fun e u' w' => e = .returned (.tuple #[]) ∧ u' = .returning ∧ w' = w := by
  refine callsD_of_wpS Tryd.func12 rfl fun c₀ cs hu => ?_
  apply wpS_seq
  apply wpS_region
  simp [wpOpsS, go_sem, recoverD, hu, Tryd.ntmps12, Exit.thenS]
  refine wpS_of_wp ?_
  go_wp2_with fail
  cases c₀
  simp_all [bodyPostS, results, Tryd.results12]
theorem assert_tf (v : Value) (w : World) : (Instr.typeAssert (.iface 29 v) 20 29 true).run Tryd.prog w = .ok (.tuple #[v, .bool true]) w := by kernel_rfl
set_option maxRecDepth 100000 in
theorem catch_fault (g2 g3 q : Nat) (vN vL : Value) (m : Int) (vf : Value) (w : World) (k2 : Blk w g2 25 #[vN, vL, .int .i64 m]) (k3 : Blk w g3 29 #[vf]) (hne : ¬ g2 = g3) :
    CallsD Tryd.prog 12 #[.pointer (some ⟨g2, 0, none⟩), .pointer (some ⟨g3, 0, none⟩)] (.panicking [{ v := .iface 29 (.pointer (some ⟨q, 0, none⟩)), recovered := false }]) w fun e u' w' =>
      e = .returned (.tuple #[]) ∧ u' = .panicking [{ v := .iface 29 (.pointer (some ⟨q, 0, none⟩)), recovered := true }] ∧
      w' = ((((w.setCell ⟨g2, 0, none⟩ (.slice none 0 0)).setCell ⟨g2, 1, none⟩ (.slice none 0 0)).setCell ⟨g2, 2, none⟩ (.int .i64 0)).setCell ⟨g3, 0, none⟩ (.pointer (some ⟨q, 0, none⟩))) := by
  have a0 : w.cell? ⟨g2, 0, none⟩ = some vN := k2.cell 0
  have a1 : w.cell? ⟨g2, 1, none⟩ = some vL := k2.cell 1
  have a2 : w.cell? ⟨g2, 2, none⟩ = some (.int .i64 m) := k2.cell 2
  have a3 : w.cell? ⟨g3, 0, none⟩ = some vf := k3.cell 0
  have f0 := k2.frozen 0
  have f1 := k2.frozen 1
  have f2 := k2.frozen 2
  have f3 := k3.frozen 0
  have hne2 : ¬ g3 = g2 := fun e => hne e.symm
  clear k2 k3
  refine callsD_of_wpS Tryd.func12 rfl fun c₀ cs hu => ?_
  apply wpS_seq
  apply wpS_region
  simp [wpOpsS, go_sem, recoverD, hu, Tryd.ntmps12, Exit.thenS]
  refine wpS_of_wp ?_
  have hta := assert_tf
  simp only [Array.replicate_succ, Array.replicate_zero, List.push_toArray, List.append_toArray, List.nil_append, List.cons_append, List.setIfInBounds_toArray, List.set_cons_succ, List.set_cons_zero]
  go_wp2_with fail
  cases c₀
  simp_all [bodyPostS, results, Tryd.results12]
end Go.Proofs.YtnaadajcehfmiaaDoor
