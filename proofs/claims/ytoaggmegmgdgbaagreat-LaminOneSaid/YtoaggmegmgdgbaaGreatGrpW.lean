import Derived.Test.YtoaggmegmgdgbaaGreatROpen
import Derived.Test.YtoaggmegmgdgbaaGreatGapC
import Derived.Test.YtoaggmegmgdgbaaGreatLamR
import Derived.Test.YtoaggmegmgdgbaaGreatLamK
import Derived.Deep.CutBlock
import Derived.Deep.CutRange
import Derived.Test.YtoaggmegmgdgbaaGreatLamB
import Derived.Test.YtoaggmegmgdgbaaGreatIter
import Derived.Test.YtoaggmegmgdgbaaGreatItO
import Derived.RangeFuncNested
import Derived.RangeFuncBound
import Derived.Shelf.Abstract
import Derived.Shelf.RegionOpen
import Derived.OwnWalkIn
import Derived.TacticsInMore
import Derived.LoopNIn
import Derived.LoopIn
import Derived.Test.YtoaggmegmgdgbaaGreatGrpP
import Derived.Test.YtoaggmegmgdgbaaGreatLiftF
import Derived.Maps.OwnSet
import Derived.Maps.StringElems
import Derived.DeepKeys4
namespace Go.Proofs.YtoaggmegmgdgbaaGreat
open Go.RowKit Go.Sort Go.Maps
theorem gb_bel {A B : World} (h : Below A.heap.size A B) : A.grownBy B none := ⟨h.os, h.tape, h.output, h.size, fun k hk _ => h.block k hk⟩
theorem grpG_ilen {α β : Type} [DecidableEq α] {κ : Nat → α} {arc : Nat → β} (k : Nat) : ∀ x, x ∈ grpG κ arc k → x.length ≤ k := fun x hx => by
  obtain ⟨r, -, rfl⟩ := List.mem_map.1 hx
  rw [List.length_map]
  have := List.length_filter_le (fun j => decide (κ j = κ r)) (List.range k)
  rw [List.length_range] at this
  exact this
end Go.Proofs.YtoaggmegmgdgbaaGreat
namespace Go.Proofs.YtoaggmegmgdgbaaGreat
open Go.RowKit Go.Sort
attribute [local go_sem] Oper.semAt_some
end Go.Proofs.YtoaggmegmgdgbaaGreat
namespace Go.Proofs.YtoaggmegmgdgbaaGreat
open Go.RowKit Go.Sort
attribute [local go_sem] Oper.semAt_some
end Go.Proofs.YtoaggmegmgdgbaaGreat
namespace Go.Proofs.YtoaggmegmgdgbaaGreat
open Go.RowKit Go.Sort Go.Maps
theorem heap_some_lt {w : World} {k : Nat} {o : Obj} (h : w.heap[k]? = some o) : k < w.heap.size := by
  rcases Nat.lt_or_ge k w.heap.size with h1 | h1
  · exact h1
  · rw [Array.getElem?_eq_none h1] at h; cases h
section
variable {B g2 g4 g6 g7 x : Nat} {vx wv vx' wv' : Value} {L M L' M' : List Lf} {st lf : Array Value} {ds : List Deferred} {w W W' : World}
end
end Go.Proofs.YtoaggmegmgdgbaaGreat
namespace Go.Proofs.YtoaggmegmgdgbaaGreat
open Go.RowKit Go.Sort Go.Maps
theorem rowRatio : (26 : TypeId) < Tryz.prog.types.size := of_decide_eq_true (by kernel_rfl)
theorem laidG : laidOutB Tryz.prog = true := by kernel_rfl
theorem wideRatio : (match Tryz.prog.underlying 26 with | some (.array _ _) | some (.struct _) => true | _ => false) = true := by rw [Tryz.underlying26]
set_option maxRecDepth 100000 in
theorem lawRat : Keyed Tryz.prog 26 := Keyed.of_law (deep_law_laid laidG (m := 3) (by decide) rowRatio (by kernel_rfl) wideRatio)
theorem lawStr : Keyed Tryz.prog 9 := string_keyed Tryz.underlying9
def kq (r : RawQ) : Lit := .string (keyBytes [.bool r.1, .string r.2.1.data.toList, .string r.2.2.data.toList])
set_option maxRecDepth 100000 in
theorem keyQ (b : Bool) (a d : ByteArray) (ha : a.size ≤ maxLen) (hd : d.size ≤ maxLen) : keyOf Tryz.prog 26 (.agg #[.bool b, .string a, .string d]) = some (kq (b, a, d)) := by
  have h1 : Tryz.prog.keyType 26 = true := by kernel_rfl
  have c1 : Tryz.prog.cellsOf 26 = 3 := by kernel_rfl
  have c2 : Tryz.prog.cellsOf 24 = 1 := by kernel_rfl
  have c3 : Tryz.prog.cellsOf 4 = 1 := by kernel_rfl
  have h0 : (26 : Nat) < Tryz.prog.types.size := rowRatio
  obtain ⟨m, hm⟩ : ∃ m, Tryz.prog.types.size = m + 1 := Nat.exists_eq_succ_of_ne_zero (Nat.ne_of_gt (Nat.lt_of_le_of_lt (Nat.zero_le _) h0))
  have h2 : (Value.agg #[.bool b, .string a, .string d]).formed Tryz.prog 26 = true := by simp [Value.formed, Tryz.underlying26, c1]
  unfold keyOf
  rw [Tryz.underlying26, hm]
  simp only [h1, h2, Bool.and_self, if_true]
  simp [Program.keyLits, Tryz.underlying26, Tryz.underlying24, Tryz.underlying4, c1, c2, c3, Value.cells, ha, hd, kq]
theorem kq_inj {r r' : RawQ} (h : szQ r) (h' : szQ r') (e : kq r = kq r') : r = r' := by
  have k1 := keyQ r.1 r.2.1 r.2.2 h.1 h.2
  have k2 := keyQ r'.1 r'.2.1 r'.2.2 h'.1 h'.2
  have e' : kq (r.1, r.2.1, r.2.2) = kq (r'.1, r'.2.1, r'.2.2) := e
  rw [e'] at k1
  have := lawRat.inj k1 k2
  simp only [Value.agg.injEq, Array.mk.injEq, List.cons.injEq, Value.bool.injEq, Value.string.injEq, and_true] at this
  exact Prod.ext this.1 (Prod.ext this.2.1 this.2.2)
theorem isKey_kq (r : RawQ) : WideAt.IsKeyLit (kq r) := trivial
theorem zeroStr (W : World) : (zeroValue 9).run Tryz.prog W = .ok (.string ⟨#[]⟩) W := by kernel_rfl
section
variable {H : Type} {P : Program} {ops : Array Oper} {rest : List Oper} {o : Oper} {a : Act} {Q : Exit → Act → World → Prop}
theorem wpList_look_str (w : World) (hg : o.guard = none) (m x : Operand) (t : TypeId) (hop : o.op = Op.lookup t m x false)
    (k e : TypeId) (K : Keyed P k) (ht : P.underlying t = some (.map k e)) (he : P.underlying e = some .string) (hz : (zeroValue e).run P w = .ok (.string ⟨#[]⟩) w) (b n : Nat) (D : DataW H)
    (hm : a.eval m = .map (some b)) (hown : w.ownsMap P k (plainElem P e) b n D) (key : Value) (kl : Lit) (hx : a.eval x = key) (hkey : keyOf P k key = some kl)
    (hK : ∀ c : ByteArray, D.atKey kl (.lit (.string [])) = .lit (.string c.data.toList) → wpList P ops Q rest (a.put o.dst (.string c)) w) :
    wpList P ops Q (o :: rest) a w := by
  refine wpList_plain hg fun K' hK' => ?_
  obtain ⟨v, ps, hrun, hv⟩ := hown.lookup K ht hz (zd := .lit (.string [])) (zp := []) (plainElem_string he (s := ⟨#[]⟩) (by unfold maxLen; decide)) hkey
  obtain ⟨c, rfl, hc, -⟩ := plainElem_string_inv he hv
  injection hc with hc _
  unfold Oper.wp
  simp [execOp, hop, hm, hx, hrun, Result.andThen]
  exact hK' _ _ (hK c hc)
theorem wpList_look_str_ok (w : World) (hg : o.guard = none) (m x : Operand) (t : TypeId) (hop : o.op = Op.lookup t m x true)
    (k e : TypeId) (K : Keyed P k) (ht : P.underlying t = some (.map k e)) (he : P.underlying e = some .string) (hz : (zeroValue e).run P w = .ok (.string ⟨#[]⟩) w) (b n : Nat) (D : DataW H)
    (hm : a.eval m = .map (some b)) (hown : w.ownsMap P k (plainElem P e) b n D) (key : Value) (kl : Lit) (hx : a.eval x = key) (hkey : keyOf P k key = some kl)
    (hK : ∀ c : ByteArray, wpList P ops Q rest (a.put o.dst (.tuple #[.string c, .bool (Maps.has D kl)])) w) :
    wpList P ops Q (o :: rest) a w :=
  wpList_lookup_own_ok w hg m x t hop k e K ht (plainElem P e) hz (.lit (.string [])) [] (plainElem_string he (s := ⟨#[]⟩) (by unfold maxLen; decide)) b n D hm hown key kl hx hkey (fun v ps hv => by
    obtain ⟨c, rfl, -, -⟩ := plainElem_string_inv he hv
    exact hK c)
end
structure MapQ (D : DataW Unit) (S : List RawQ) (f : RawQ → ByteArray) : Prop where
  isMap : IsMap D
  has : ∀ r, szQ r → (Maps.has D (kq r) = true ↔ r ∈ S)
  get : ∀ r, r ∈ S → ∀ z, D.atKey (kq r) z = .lit (.string (f r).data.toList)
  sz : ∀ r, r ∈ S → szQ r
theorem MapQ.nil (f : RawQ → ByteArray) : MapQ (.map []) [] f := ⟨isMap_empty, fun r _ => ⟨fun h => absurd (show false = true from h) Bool.false_ne_true, fun h => absurd h (by simp)⟩, fun r h => absurd h (by simp), fun r h => absurd h (by simp)⟩
theorem MapQ.put {D : DataW Unit} {S : List RawQ} {f : RawQ → ByteArray} (h : MapQ D S f) {r : RawQ} (hz : szQ r) : MapQ (D.put (kq r) (.lit (.string (f r).data.toList))) (S ++ [r]) f := by
  have key : ∀ {r' : RawQ}, szQ r' → r' ≠ r → kq r' ≠ kq r := fun hz' hne e => hne (kq_inj hz' hz e)
  refine ⟨h.isMap.put _ _, fun r' hz' => ?_, fun r' hr' z => ?_, fun r' hr' => ?_⟩
  · by_cases e : r' = r
    · subst e
      rw [has_put_same h.isMap (isKey_kq r')]
      simp
    · rw [has_put_other (key hz' e), h.has r' hz']
      simp [e]
  · by_cases e : r' = r
    · subst e
      exact atKey_put_same h.isMap (isKey_kq r') _ _
    · have hm : r' ∈ S := by
        rcases List.mem_append.1 hr' with h1 | h1
        · exact h1
        · exact absurd (List.mem_singleton.1 h1) e
      rw [atKey_put_other (key (h.sz r' hm) e)]
      exact h.get r' hm z
  · rcases List.mem_append.1 hr' with h1 | h1
    · exact h.sz r' h1
    · rw [List.mem_singleton.1 h1]; exact hz
theorem MapQ.same {D : DataW Unit} {S : List RawQ} {f : RawQ → ByteArray} (h : MapQ D S f) {r : RawQ} (hr : r ∈ S) : MapQ D (S ++ [r]) f := by
  have e : ∀ x, x ∈ S ++ [r] ↔ x ∈ S := fun x => by
    rw [List.mem_append, List.mem_singleton]
    exact ⟨fun k => k.elim id fun e => e ▸ hr, .inl⟩
  exact ⟨h.isMap, fun x hx => (h.has x hx).trans (e x).symm, fun x hx z => h.get x ((e x).1 hx) z, fun x hx => h.sz x ((e x).1 hx)⟩
structure MapP (D : DataW Unit) (ks : List ByteArray) : Prop where
  isMap : IsMap D
  has : ∀ s : ByteArray, Maps.has D (.string s.data.toList) = true ↔ s ∈ ks
  get : ∀ i, i < ks.length → ∀ z, D.atKey (.string ks[i]!.data.toList) z = .lit (.int .i64 (i : Int))
theorem str_key {s u : ByteArray} (h : s ≠ u) : Lit.string s.data.toList ≠ Lit.string u.data.toList := fun e => h (by
  injection e with e
  exact ByteArray.ext (Array.ext' e))
theorem MapP.nil : MapP (.map []) [] := ⟨isMap_empty, fun r => ⟨fun h => absurd (show false = true from h) Bool.false_ne_true, fun h => absurd h (by simp)⟩, fun i h => absurd h (by simp)⟩
theorem MapP.put {D : DataW Unit} {ks : List ByteArray} (h : MapP D ks) {s : ByteArray} (hs : s ∉ ks) : MapP (D.put (.string s.data.toList) (.lit (.int .i64 (ks.length : Int)))) (ks ++ [s]) := by
  refine ⟨h.isMap.put _ _, fun u => ?_, fun i hi z => ?_⟩
  · by_cases e : u = s
    · subst e
      rw [has_put_same h.isMap (show WideAt.IsKeyLit (.string _) from trivial)]
      simp
    · rw [has_put_other (str_key e), h.has u]
      simp [e]
  · rw [List.length_append, List.length_singleton] at hi
    rcases Nat.lt_or_ge i ks.length with h1 | h1
    · have e : (ks ++ [s])[i]! = ks[i]! := by
        rw [getElem!_pos (ks ++ [s]) i (by simp; omega), getElem!_pos ks i h1, List.getElem_append_left h1]
      rw [e, atKey_put_other (str_key (fun e2 => hs (by rw [← e2]; exact getBang_memP h1)))]
      exact h.get i h1 z
    · have hi2 : i = ks.length := by omega
      subst hi2
      have e : (ks ++ [s])[ks.length]! = s := by
        rw [getElem!_pos (ks ++ [s]) ks.length (by simp)]
        simp
      rw [e]
      exact atKey_put_same h.isMap (show WideAt.IsKeyLit (.string _) from trivial) _ _
section
variable {α β : Type} [DecidableEq α] {κ : Nat → α} {arc : Nat → β} {k : Nat} {s : α}
def kinds (κ : Nat → α) (k : Nat) : List α := (repsG κ k).map κ
theorem kinds_new (hs : s = κ k) (h : s ∉ kinds κ k) : kinds κ (k + 1) = kinds κ k ++ [s] ∧ grpG κ arc (k + 1) = grpG κ arc k ++ [[arc k]] := by
  subst hs
  have h' : κ k ∉ (repsG κ k).map κ := h
  exact ⟨by unfold kinds; rw [repsG, if_neg h', List.map_append]; rfl, grpG_new h'⟩
theorem kinds_old [Inhabited α] {i : Nat} (hs : s = κ k) (hi : i < (kinds κ k).length) (h : (kinds κ k)[i]! = s) : kinds κ (k + 1) = kinds κ k ∧ grpG κ arc (k + 1) = (grpG κ arc k).modify i (· ++ [arc k]) := by
  subst hs
  rw [getElem!_pos (kinds κ k) i hi] at h
  unfold kinds at h hi
  rw [List.getElem_map] at h
  have hi' : i < (repsG κ k).length := by simpa using hi
  refine ⟨?_, grpG_old hi' h⟩
  unfold kinds
  rw [repsG, if_pos (List.mem_map.2 ⟨_, List.getElem_mem hi', h⟩)]
theorem kinds_len : (kinds κ k).length = (grpG κ arc k).length := by unfold kinds; rw [List.length_map, grpG_len]
theorem kinds_mem_get [Inhabited α] (h : s ∈ kinds κ k) : ∃ i, i < (kinds κ k).length ∧ (kinds κ k)[i]! = s := by
  obtain ⟨i, hi, e⟩ := List.mem_iff_getElem.1 h
  exact ⟨i, hi, by rw [getElem!_pos (kinds κ k) i hi]; exact e⟩
end
def mkB (l : List Nat) : ByteArray := ⟨(l.map UInt8.ofNat).toArray⟩
def rowS (k : List Nat × List Nat) : ByteArray := (((mkB k.1 ++ ⟨#[124]⟩) ++ mkB k.2) ++ ⟨#[124]⟩) ++ Utf8.encode (k.1.length : Int)
theorem mkB_size (l : List Nat) : (mkB l).size = l.length := by simp [mkB, ByteArray.size]
theorem bar_list (a b : List UInt8) (e : ByteArray) : ((((⟨a.toArray⟩ ++ ⟨#[124]⟩) ++ ⟨b.toArray⟩) ++ ⟨#[124]⟩) ++ e : ByteArray).data.toList = a ++ (124 :: (b ++ (124 :: e.data.toList))) := by
  simp only [ByteArray.data_append, Array.toList_append, List.append_assoc, List.cons_append, List.nil_append]
theorem rowS_list (k : List Nat × List Nat) : (rowS k).data.toList = k.1.map UInt8.ofNat ++ (124 :: (k.2.map UInt8.ofNat ++ (124 :: (Utf8.encode (k.1.length : Int)).data.toList))) := bar_list _ _ _
theorem split_bar : ∀ {a b x y : List UInt8}, (∀ u, u ∈ a → u ≠ 124) → (∀ u, u ∈ b → u ≠ 124) → a ++ 124 :: x = b ++ 124 :: y → a = b ∧ x = y
  | [], [], x, y, _, _, h => by injection h with _ h; exact ⟨rfl, h⟩
  | [], c :: b, x, y, _, hb, h => by injection h with h _; exact absurd h.symm (hb c (List.mem_cons_self ..))
  | c :: a, [], x, y, ha, _, h => by injection h with h _; exact absurd h (ha c (List.mem_cons_self ..))
  | c :: a, e :: b, x, y, ha, hb, h => by
    injection h with h1 h2
    obtain ⟨h3, h4⟩ := split_bar (fun u hu => ha u (List.mem_cons_of_mem _ hu)) (fun u hu => hb u (List.mem_cons_of_mem _ hu)) h2
    exact ⟨by rw [h1, h3], h4⟩
theorem map_ofNat_inj : ∀ {a b : List Nat}, (∀ x, x ∈ a → x < 256) → (∀ x, x ∈ b → x < 256) → a.map UInt8.ofNat = b.map UInt8.ofNat → a = b
  | [], [], _, _, _ => rfl
  | [], c :: b, _, _, h => by simp at h
  | c :: a, [], _, _, h => by simp at h
  | c :: a, e :: b, ha, hb, h => by
    simp only [List.map_cons, List.cons.injEq] at h
    have h1 := ha c (List.mem_cons_self ..)
    have h2 := hb e (List.mem_cons_self ..)
    have h3 := congrArg UInt8.toNat h.1
    simp at h3
    rw [Nat.mod_eq_of_lt h1, Nat.mod_eq_of_lt h2] at h3
    rw [h3, map_ofNat_inj (fun x hx => ha x (List.mem_cons_of_mem _ hx)) (fun x hx => hb x (List.mem_cons_of_mem _ hx)) h.2]
theorem symB_facts {x : Nat} (h : symB x = true) : x < 256 ∧ UInt8.ofNat x ≠ 124 := by
  unfold symB at h
  simp only [Bool.or_eq_true, decide_eq_true_eq] at h
  refine ⟨by omega, fun e => ?_⟩
  have h3 := congrArg UInt8.toNat e
  simp at h3
  omega
theorem rowS_inj {k k' : List Nat × List Nat} (h : mayI k.1 k.2 = true) (h' : mayI k'.1 k'.2 = true) (e : rowS k = rowS k') : k = k' := by
  obtain ⟨-, -, p1, p2⟩ := mayI_spec h
  obtain ⟨-, -, q1, q2⟩ := mayI_spec h'
  have e1 : (rowS k).data.toList = (rowS k').data.toList := by rw [e]
  rw [rowS_list, rowS_list] at e1
  have bar : ∀ {l : List Nat}, (∀ x, x ∈ l → symB x = true) → ∀ u, u ∈ l.map UInt8.ofNat → u ≠ 124 := fun hl u hu => by
    obtain ⟨x, hx, rfl⟩ := List.mem_map.1 hu
    exact (symB_facts (hl x hx)).2
  obtain ⟨e2, e3⟩ := split_bar (bar p1) (bar q1) e1
  obtain ⟨e4, -⟩ := split_bar (bar p2) (bar q2) e3
  exact Prod.ext (map_ofNat_inj (fun x hx => (symB_facts (p1 x hx)).1) (fun x hx => (symB_facts (q1 x hx)).1) e2) (map_ofNat_inj (fun x hx => (symB_facts (p2 x hx)).1) (fun x hx => (symB_facts (q2 x hx)).1) e4)
theorem encode_le4 (i : Int) : (Utf8.encode i).size ≤ 4 := by
  unfold Utf8.encode
  simp only
  generalize (if Utf8.valid i = true then i.toNat else Utf8.runeError) = c
  by_cases h1 : c < 0x80
  · rw [if_pos h1]; show 1 ≤ 4; omega
  · rw [if_neg h1]
    by_cases h2 : c < 0x800
    · rw [if_pos h2]; show 2 ≤ 4; omega
    · rw [if_neg h2]
      by_cases h3 : c < 0x10000
      · rw [if_pos h3]; show 3 ≤ 4; omega
      · rw [if_neg h3]; show 4 ≤ 4; omega
theorem rowS_size {k : List Nat × List Nat} : (rowS k).size ≤ k.1.length + k.2.length + 6 := by
  have h := encode_le4 (k.1.length : Int)
  have e : (rowS k).size = k.1.length + 1 + k.2.length + 1 + (Utf8.encode (k.1.length : Int)).size := by
    unfold rowS
    rw [ByteArray.size_append, ByteArray.size_append, ByteArray.size_append, ByteArray.size_append, mkB_size, mkB_size]
    rfl
  omega
theorem conv_pf {W : World} {B : Nat} {v : Value} {l : List Nat} (h : Pf W B v l) (hl : ∀ x, x ∈ l → x < 256) :
    (convert 118 9 v).run Tryz.prog W = .ok (.string (mkB l)) W := by
  obtain ⟨A, c, rfl, h1, h2, h3⟩ := h
  by_cases h0 : l = []
  · subst h0
    rcases A with _ | ad
    · rw [List.length_nil]
      simp [convert, run_underlying Tryz.underlying118, run_underlying Tryz.underlying9, run_underlying Tryz.underlying5, Conv.bytesToString]
      rfl
    · have := run_convert_bytes_back (P := Tryz.prog) W 118 9 5 ad c [] Tryz.underlying118 Tryz.underlying5 Tryz.underlying9 (fun j hj => absurd hj (by simp))
      exact this
  · obtain ⟨g, cur, rfl, -, h4, h5⟩ := h3 h0
    have := run_convert_bytes_back (P := Tryz.prog) W 118 9 5 ⟨g, 0, none⟩ c (l.map UInt8.ofNat) Tryz.underlying118 Tryz.underlying5 Tryz.underlying9 (fun j hj => by
      have hj' : j < l.length := by simpa using hj
      have hx : l[j]? = some l[j] := List.getElem?_eq_getElem hj'
      have e : ((l.map UInt8.ofNat)[j].toNat : Int) = (l[j] : Int) := by
        rw [List.getElem_map]
        have := hl l[j] (List.getElem_mem hj')
        simp
        omega
      rw [e]
      have hc : W.cell? ⟨g, j, none⟩ = some (.int .u8 (l[j] : Int)) := by
        rw [cell_of_row W g j _ _ (0, 0) h4]
        exact h5 j _ hx
      unfold Addr.add
      split
      · rename_i hz; subst hz; exact hc
      · simpa using hc)
    rw [List.length_map] at this
    exact this
end Go.Proofs.YtoaggmegmgdgbaaGreat
