/- An Itin as an argument: what its lists read as; a string as an argument. -/
import Derived.Test.YtbddlbhanpjdnaaGreatDoorCard
import Derived.Test.YtbddlbhanpjdnaaGreatDoorLiftB
import Derived.Test.YtbddlbhanpjdnaaGreatDoorTxt
import Derived.ChangeSame
import Derived.ChangeMaps5
namespace Go.Proofs.YtbddlbhanpjdnaaGreatDoor
open Go.ChangeShapes Go.WideShapes Go.ChangeAt Go.RowKit

section
variable {H : Type} {enc : TypeId × Value → H} {W : World} {base : Nat}
theorem bytes_part {fuel : Nat} {c : Value} {y : DataW H × List MemPlace} (h : DataW.trod enc Tryz.prog W 0 (fun _ => true) true fuel 28 [c] = some y) :
    ∃ (A : Option Addr) (L cp : Nat) (T : TypeId) (l : List Nat), c = .slice A L cp ∧ Rd .u8 T W c l ∧ (∀ x, x ∈ l → x < 256) ∧ (l = [] ∨ ∃ es sp, y.1 = .slice es sp ∧ es.length = l.length) := by
  rcases open_ints Tryz.underlying28 Tryz.underlying5 bytes_cells h with ⟨hcs, -⟩ | ⟨a, len, cap, zs, hcs, -, hl, hm, hz, hx, hcell, hwz⟩
  · obtain rfl : c = .slice none 0 0 := by simpa using hcs
    exact ⟨none, 0, 0, 0, [], rfl, Rd.nil_, fun x hx => (by cases hx), .inl rfl⟩
  · obtain rfl : c = .slice (some a) len cap := by simpa using hcs
    simp only [if_true] at hz
    obtain ⟨T, h1, h2⟩ := rd_of_ints hl hm (by omega) hcell hwz
    refine ⟨_, _, _, T, _, rfl, h1, h2, .inr ⟨_, _, (congrArg Prod.fst hx), ?_⟩⟩
    simp [lits]

set_option maxRecDepth 100000 in
theorem itin_open {ts : List TypeId} {ds : List (DataW H)} {j : Nat} {v : Value} {d : DataW H} {ps : List MemPlace} (hv : Value.okWide Tryz.prog W .any base 30 v)
    (h : DataW.Trod enc Tryz.prog W 0 (fun _ => true) true 30 v d ps) (hsz : (DataW.weightsEach Tryz.prog ts ds).all (· ≤ reachBytes) = true) (ht : ts[j]? = some 30) (hd : ds[j]? = some d) :
    ∃ a b P Q, v = .agg #[a, b] ∧ Itn W a b P Q := by
  obtain ⟨cs, rfl, hs⟩ := okWide_struct Tryz.underlying30 hv
  rw [show Tryz.prog.cellsOf 30 = 2 by kernel_rfl] at hs
  obtain ⟨c0, c1, rfl⟩ : ∃ c0 c1, cs = #[c0, c1] := by
    obtain ⟨l⟩ := cs
    match l, hs with
    | [c0, c1], _ => exact ⟨c0, c1, rfl⟩
  obtain ⟨fuel, hf⟩ := h
  obtain ⟨y0, y1, n, hx, -, h0, h1⟩ := trod_struct2 Tryz.underlying30 hf
  rw [show Tryz.prog.cellsOf 28 = 1 by kernel_rfl] at h0 h1
  simp [Value.cells] at h0 h1
  obtain ⟨A0, L0, C0, T0, l0, rfl, r0, s0, g0⟩ := bytes_part h0
  obtain ⟨A1, L1, C1, T1, l1, rfl, r1, s1, g1⟩ := bytes_part h1
  obtain rfl : d = .agg [y0.1, y1.1] := (Prod.mk.inj hx).1
  have hb1 : Tryz.prog.bytesOf 5 = 1 := by kernel_rfl
  have hw : ∀ x, x ∈ DataW.weights Tryz.prog 30 (.agg [y0.1, y1.1] : DataW H) → x ≤ 140737488351232 := fun x hx => by
    have := List.all_eq_true.1 hsz _ (DataW.weights_mem_each ht hd x hx)
    simpa [show reachBytes = 140737488351232 from rfl] using this
  have hw0 : ∀ es sp, y0.1 = .slice es sp → es.length ≤ 140737488351232 := fun es sp e => by
    have := hw (es.length + sp.length) (by rw [e]; simp [DataW.weights, Tryz.underlying30, DataW.weightsEach, Tryz.underlying28, hb1])
    omega
  have hw1 : ∀ es sp, y1.1 = .slice es sp → es.length ≤ 140737488351232 := fun es sp e => by
    have := hw (es.length + sp.length) (by rw [e]; simp [DataW.weights, Tryz.underlying30, DataW.weightsEach, Tryz.underlying28, hb1])
    omega
  refine ⟨_, _, l0, l1, rfl, ⟨_, _, _, T0, rfl, r0⟩, ⟨_, _, _, T1, rfl, r1⟩, s0, s1, ?_, ?_⟩
  · rcases g0 with rfl | ⟨es, sp, e, hl⟩
    · simp
    · have := hw0 es sp e; omega
  · rcases g1 with rfl | ⟨es, sp, e, hl⟩
    · simp
    · have := hw1 es sp e; omega

set_option maxRecDepth 100000 in
theorem text_open {ts : List TypeId} {ds : List (DataW H)} {j : Nat} {v : Value} {d : DataW H} {ps : List MemPlace} (hv : Value.okWide Tryz.prog W .any base 9 v)
    (h : DataW.Trod enc Tryz.prog W 0 (fun _ => true) true 9 v d ps) (hsz : (DataW.weightsEach Tryz.prog ts ds).all (· ≤ reachBytes) = true) (ht : ts[j]? = some 9) (hd : ds[j]? = some d) :
    ∃ s : ByteArray, v = .string s ∧ s.size ≤ 140737488351232 := by
  obtain ⟨s, rfl, rfl, rfl, -⟩ := Go.ChangeMaps.open_string Tryz.underlying9 hv h
  refine ⟨s, rfl, ?_⟩
  have := List.all_eq_true.1 hsz _ (DataW.weights_mem_each ht hd s.size (by simp [DataW.weights]))
  simpa [show reachBytes = 140737488351232 from rfl] using this
end
end Go.Proofs.YtbddlbhanpjdnaaGreatDoor
