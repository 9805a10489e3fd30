/- A slice of bytes as a string. · The same lists: filigreelaw22.same. -/
import Derived.Test.YtbddlbhanpjdnaaDoorRead
namespace Go.Proofs.YtbddlbhanpjdnaaDoor
open Go.RowKit Go.Sort

theorem conv_rd {T : TypeId} (w : World) (A : Option Addr) (n c : Nat) (l : List Nat) (h : Rd .u8 T w (.slice A n c) l) (hl : ∀ x, x ∈ l → x < 256) (D : TypeId) (hD : Tryd.prog.underlying D = some .string) :
    (convert 26 D (.slice A n c)).run Tryd.prog w = .ok (.string (mkS l)) w := by
  obtain ⟨rfl, -, -, hc⟩ := rd_cells h
  by_cases h0 : l = []
  · subst h0
    show (convert 26 D (.slice A 0 c)).run Tryd.prog w = .ok (.string (mkS [])) w
    rw [run_convert_bytes_string w 26 D 5 A 0 c Tryd.underlying26 Tryd.underlying5 hD]
    cases A with
    | none => simp [Conv.bytesToString, mkS]; rfl
    | some a => rw [run_bytesToString (P := Tryd.prog) w a 0 c [] (by simp [loadCells, loadCellsFrom])]; rfl
  · obtain ⟨g, off, rfl, -, hcell⟩ := hc h0
    have h := run_convert_bytes_back (P := Tryd.prog) w 26 D 5 ⟨g, off, none⟩ c (l.map UInt8.ofNat) Tryd.underlying26 Tryd.underlying5 hD (fun j hj => by
      have hj' : j < l.length := by simpa using hj
      have hx : l[j]? = some l[j] := List.getElem?_eq_getElem hj'
      have e : ((l.map UInt8.ofNat)[j].toNat : Int) = (l[j] : Int) := by
        rw [List.getElem_map]
        have := hl l[j] (List.getElem_mem hj')
        simp
        omega
      rw [e]
      have hc := hcell j _ hx
      unfold Addr.add
      split
      · rename_i h0; subst h0; simpa using hc
      · simpa using hc)
    rw [List.length_map] at h
    exact h
theorem mkS_beq {l m : List Nat} (hl : ∀ x, x ∈ l → x < 256) (hm : ∀ x, x ∈ m → x < 256) : ((mkS l).toList == (mkS m).toList) = decide (l = m) := by
  by_cases h : l = m
  · subst h; simp
  · rw [decide_eq_false h, beq_eq_false_iff_ne]
    intro e
    have e2 : mkS l = mkS m := toList_inj e
    apply h
    rw [← sl_mk l hl, ← sl_mk m hm]
    exact congrArg sl e2

set_option maxRecDepth 100000 in
set_option maxHeartbeats 1000000 in
/-- filigreelaw22.same -/
theorem lsame_any (a b c d : Value) (P Q P' Q' : List Nat) (w : World) (h : Itn w a b P Q) (k : Itn w c d P' Q') :
    Calls Tryd.prog 25 #[.agg #[a, b], .agg #[c, d]] w (RetVal (.bool (decide (P = P') && decide (Q = Q'))) w) := by
  obtain ⟨⟨A1, n1, c1, T1, rfl, h1⟩, ⟨A2, n2, c2, T2, rfl, h2⟩, s1, s2, -, -⟩ := h
  obtain ⟨⟨A3, n3, c3, T3, rfl, h3⟩, ⟨A4, n4, c4, T4, rfl, h4⟩, s3, s4, -, -⟩ := k
  obtain ⟨W, hW⟩ : ∃ W, W = (w.alloc (.cells #[.slice A1 n1 c1, .slice A2 n2 c2] 28)).alloc (.cells #[.slice A3 n3 c3, .slice A4 n4 c4] 28) := ⟨_, rfl⟩
  have hBW : Below w.heap.size w W := by rw [hW]; exact ((Below.refl _ w).alloc (Nat.le_refl _) _).alloc (by simp) _
  have q1 := conv_rd W A1 n1 c1 P (h1.below hBW) s1 9 Tryd.underlying9
  have q2 := conv_rd W A2 n2 c2 Q (h2.below hBW) s2 9 Tryd.underlying9
  have q3 := conv_rd W A3 n3 c3 P' (h3.below hBW) s3 9 Tryd.underlying9
  have q4 := conv_rd W A4 n4 c4 Q' (h4.below hBW) s4 9 Tryd.underlying9
  have e1 := mkS_beq s1 s3
  have e2 := mkS_beq s2 s4
  obtain ⟨x, hx⟩ : ∃ x, x = decide (P = P') := ⟨_, rfl⟩
  obtain ⟨y, hy⟩ : ∃ y, y = decide (Q = Q') := ⟨_, rfl⟩
  rw [← hx] at e1 ⊢
  rw [← hy] at e2 ⊢
  obtain ⟨m1, hm1⟩ : ∃ m, m = mkS P := ⟨_, rfl⟩
  obtain ⟨m2, hm2⟩ : ∃ m, m = mkS Q := ⟨_, rfl⟩
  obtain ⟨m3, hm3⟩ : ∃ m, m = mkS P' := ⟨_, rfl⟩
  obtain ⟨m4, hm4⟩ : ∃ m, m = mkS Q' := ⟨_, rfl⟩
  rw [← hm1] at q1 e1
  rw [← hm2] at q2 e2
  rw [← hm3] at q3 e1
  rw [← hm4] at q4 e2
  rw [hW] at q1 q2 q3 q4 hBW
  replace hBW := Lib.hid hBW
  clear hW h1 h2 h3 h4 s1 s2 s3 s4 hx hy hm1 hm2 hm3 hm4
  cases x <;> cases y
  all_goals
    go_enter Tryd.func25, Tryd.ntmps25
    go_wp2_with fail
    go_ret
    exact ⟨rfl, hBW.out⟩
end Go.Proofs.YtbddlbhanpjdnaaDoor
