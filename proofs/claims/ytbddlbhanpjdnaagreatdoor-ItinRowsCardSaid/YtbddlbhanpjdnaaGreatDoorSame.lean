/- A slice of bytes as a string. · The same lists: filigreelaw22.same. -/
import Derived.Test.YtbddlbhanpjdnaaGreatDoorRead
namespace Go.Proofs.YtbddlbhanpjdnaaGreatDoor
open Go.RowKit Go.Sort

theorem conv_rd {T : TypeId} (w : World) (A : Option Addr) (n c : Nat) (l : List Nat) (h : Rd .u8 T w (.slice A n c) l) (hl : ∀ x, x ∈ l → x < 256) (D : TypeId) (hD : Tryz.prog.underlying D = some .string) :
    (convert 28 D (.slice A n c)).run Tryz.prog w = .ok (.string (mkS l)) w := by
  obtain ⟨rfl, -, -, hc⟩ := rd_cells h
  by_cases h0 : l = []
  · subst h0
    show (convert 28 D (.slice A 0 c)).run Tryz.prog w = .ok (.string (mkS [])) w
    rw [run_convert_bytes_string w 28 D 5 A 0 c Tryz.underlying28 Tryz.underlying5 hD]
    cases A with
    | none => simp [Conv.bytesToString, mkS]; rfl
    | some a => rw [run_bytesToString (P := Tryz.prog) w a 0 c [] (by simp [loadCells, loadCellsFrom])]; rfl
  · obtain ⟨g, off, rfl, -, hcell⟩ := hc h0
    have h := run_convert_bytes_back (P := Tryz.prog) w 28 D 5 ⟨g, off, none⟩ c (l.map UInt8.ofNat) Tryz.underlying28 Tryz.underlying5 hD (fun j hj => by
      have hj' : j < l.length := by simpa using hj
      have hx : l[j]? = some l[j] := List.getElem?_eq_getElem hj'
      have e : ((l.map UInt8.ofNat)[j].toNat : Int) = (l[j] : Int) := by
        rw [List.getElem_map]
        have := hl l[j] (List.getElem_mem hj')
        simp
        omega
      rw [e]
      have hc := hcell j _ hx
      unfold Addr.add
      split
      · rename_i h0; subst h0; simpa using hc
      · simpa using hc)
    rw [List.length_map] at h
    exact h
theorem mkS_beq {l m : List Nat} (hl : ∀ x, x ∈ l → x < 256) (hm : ∀ x, x ∈ m → x < 256) : ((mkS l).toList == (mkS m).toList) = decide (l = m) := by
  by_cases h : l = m
  · subst h; simp
  · rw [decide_eq_false h, beq_eq_false_iff_ne]
    intro e
    have e2 : mkS l = mkS m := toList_inj e
    apply h
    rw [← sl_mk l hl, ← sl_mk m hm]
    exact congrArg sl e2

end Go.Proofs.YtbddlbhanpjdnaaGreatDoor
