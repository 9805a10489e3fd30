import Derived.Test.YtoaggmegmgdgbaaGreatRGaps
import Derived.Test.YtoaggmegmgdgbaaGreatLeavF
import Derived.Test.YtoaggmegmgdgbaaGreatGrpP
import Derived.Test.YtoaggmegmgdgbaaGreatLiftF
import Derived.Test.YtoaggmegmgdgbaaGreatItO
import Derived.Maps.OwnSet
import Derived.Maps.StringElems
import Derived.DeepKeys4
import Derived.Test.YtoaggmegmgdgbaaGreatRRise
import Derived.Test.YtoaggmegmgdgbaaGreatHullA
namespace Go.Proofs.YtoaggmegmgdgbaaGreat
open Go.RowKit Go.Sort Go.Maps
theorem heap_some_lt {w : World} {k : Nat} {o : Obj} (h : w.heap[k]? = some o) : k < w.heap.size := by
  rcases Nat.lt_or_ge k w.heap.size with h1 | h1
  · exact h1
  · rw [Array.getElem?_eq_none h1] at h; cases h
section
variable {B g2 g4 g6 g7 x : Nat} {vx wv vx' wv' : Value} {L M L' M' : List Lf} {st lf : Array Value} {ds : List Deferred} {w W W' : World}
end
end Go.Proofs.YtoaggmegmgdgbaaGreat
namespace Go.Proofs.YtoaggmegmgdgbaaGreat
open Go.RowKit Go.Sort Go.Maps
theorem rowRatio : (26 : TypeId) < Tryz.prog.types.size := of_decide_eq_true (by kernel_rfl)
theorem laidG : laidOutB Tryz.prog = true := by kernel_rfl
theorem wideRatio : (match Tryz.prog.underlying 26 with | some (.array _ _) | some (.struct _) => true | _ => false) = true := by rw [Tryz.underlying26]
set_option maxRecDepth 100000 in
theorem lawRat : Keyed Tryz.prog 26 := Keyed.of_law (deep_law_laid laidG (m := 3) (by decide) rowRatio (by kernel_rfl) wideRatio)
theorem lawStr : Keyed Tryz.prog 9 := string_keyed Tryz.underlying9
def kq (r : RawQ) : Lit := .string (keyBytes [.bool r.1, .string r.2.1.data.toList, .string r.2.2.data.toList])
set_option maxRecDepth 100000 in
theorem keyQ (b : Bool) (a d : ByteArray) (ha : a.size ≤ maxLen) (hd : d.size ≤ maxLen) : keyOf Tryz.prog 26 (.agg #[.bool b, .string a, .string d]) = some (kq (b, a, d)) := by
  have h1 : Tryz.prog.keyType 26 = true := by kernel_rfl
  have c1 : Tryz.prog.cellsOf 26 = 3 := by kernel_rfl
  have c2 : Tryz.prog.cellsOf 24 = 1 := by kernel_rfl
  have c3 : Tryz.prog.cellsOf 4 = 1 := by kernel_rfl
  have h0 : (26 : Nat) < Tryz.prog.types.size := rowRatio
  obtain ⟨m, hm⟩ : ∃ m, Tryz.prog.types.size = m + 1 := Nat.exists_eq_succ_of_ne_zero (Nat.ne_of_gt (Nat.lt_of_le_of_lt (Nat.zero_le _) h0))
  have h2 : (Value.agg #[.bool b, .string a, .string d]).formed Tryz.prog 26 = true := by simp [Value.formed, Tryz.underlying26, c1]
  unfold keyOf
  rw [Tryz.underlying26, hm]
  simp only [h1, h2, Bool.and_self, if_true]
  simp [Program.keyLits, Tryz.underlying26, Tryz.underlying24, Tryz.underlying4, c1, c2, c3, Value.cells, ha, hd, kq]
theorem kq_inj {r r' : RawQ} (h : szQ r) (h' : szQ r') (e : kq r = kq r') : r = r' := by
  have k1 := keyQ r.1 r.2.1 r.2.2 h.1 h.2
  have k2 := keyQ r'.1 r'.2.1 r'.2.2 h'.1 h'.2
  have e' : kq (r.1, r.2.1, r.2.2) = kq (r'.1, r'.2.1, r'.2.2) := e
  rw [e'] at k1
  have := lawRat.inj k1 k2
  simp only [Value.agg.injEq, Array.mk.injEq, List.cons.injEq, Value.bool.injEq, Value.string.injEq, and_true] at this
  exact Prod.ext this.1 (Prod.ext this.2.1 this.2.2)
theorem isKey_kq (r : RawQ) : WideAt.IsKeyLit (kq r) := trivial
theorem zeroStr (W : World) : (zeroValue 9).run Tryz.prog W = .ok (.string ⟨#[]⟩) W := by kernel_rfl
section
variable {H : Type} {P : Program} {ops : Array Oper} {rest : List Oper} {o : Oper} {a : Act} {Q : Exit → Act → World → Prop}
theorem wpList_look_str (w : World) (hg : o.guard = none) (m x : Operand) (t : TypeId) (hop : o.op = Op.lookup t m x false)
    (k e : TypeId) (K : Keyed P k) (ht : P.underlying t = some (.map k e)) (he : P.underlying e = some .string) (hz : (zeroValue e).run P w = .ok (.string ⟨#[]⟩) w) (b n : Nat) (D : DataW H)
    (hm : a.eval m = .map (some b)) (hown : w.ownsMap P k (plainElem P e) b n D) (key : Value) (kl : Lit) (hx : a.eval x = key) (hkey : keyOf P k key = some kl)
    (hK : ∀ c : ByteArray, D.atKey kl (.lit (.string [])) = .lit (.string c.data.toList) → wpList P ops Q rest (a.put o.dst (.string c)) w) :
    wpList P ops Q (o :: rest) a w := by
  refine wpList_plain hg fun K' hK' => ?_
  obtain ⟨v, ps, hrun, hv⟩ := hown.lookup K ht hz (zd := .lit (.string [])) (zp := []) (plainElem_string he (s := ⟨#[]⟩) (by unfold maxLen; decide)) hkey
  obtain ⟨c, rfl, hc, -⟩ := plainElem_string_inv he hv
  injection hc with hc _
  unfold Oper.wp
  simp [execOp, hop, hm, hx, hrun, Result.andThen]
  exact hK' _ _ (hK c hc)
theorem wpList_look_str_ok (w : World) (hg : o.guard = none) (m x : Operand) (t : TypeId) (hop : o.op = Op.lookup t m x true)
    (k e : TypeId) (K : Keyed P k) (ht : P.underlying t = some (.map k e)) (he : P.underlying e = some .string) (hz : (zeroValue e).run P w = .ok (.string ⟨#[]⟩) w) (b n : Nat) (D : DataW H)
    (hm : a.eval m = .map (some b)) (hown : w.ownsMap P k (plainElem P e) b n D) (key : Value) (kl : Lit) (hx : a.eval x = key) (hkey : keyOf P k key = some kl)
    (hK : ∀ c : ByteArray, wpList P ops Q rest (a.put o.dst (.tuple #[.string c, .bool (Maps.has D kl)])) w) :
    wpList P ops Q (o :: rest) a w :=
  wpList_lookup_own_ok w hg m x t hop k e K ht (plainElem P e) hz (.lit (.string [])) [] (plainElem_string he (s := ⟨#[]⟩) (by unfold maxLen; decide)) b n D hm hown key kl hx hkey (fun v ps hv => by
    obtain ⟨c, rfl, -, -⟩ := plainElem_string_inv he hv
    exact hK c)
end
structure MapQ (D : DataW Unit) (S : List RawQ) (f : RawQ → ByteArray) : Prop where
  isMap : IsMap D
  has : ∀ r, szQ r → (Maps.has D (kq r) = true ↔ r ∈ S)
  get : ∀ r, r ∈ S → ∀ z, D.atKey (kq r) z = .lit (.string (f r).data.toList)
  sz : ∀ r, r ∈ S → szQ r
theorem MapQ.nil (f : RawQ → ByteArray) : MapQ (.map []) [] f := ⟨isMap_empty, fun r _ => ⟨fun h => absurd (show false = true from h) Bool.false_ne_true, fun h => absurd h (by simp)⟩, fun r h => absurd h (by simp), fun r h => absurd h (by simp)⟩
theorem MapQ.put {D : DataW Unit} {S : List RawQ} {f : RawQ → ByteArray} (h : MapQ D S f) {r : RawQ} (hz : szQ r) : MapQ (D.put (kq r) (.lit (.string (f r).data.toList))) (S ++ [r]) f := by
  have key : ∀ {r' : RawQ}, szQ r' → r' ≠ r → kq r' ≠ kq r := fun hz' hne e => hne (kq_inj hz' hz e)
  refine ⟨h.isMap.put _ _, fun r' hz' => ?_, fun r' hr' z => ?_, fun r' hr' => ?_⟩
  · by_cases e : r' = r
    · subst e
      rw [has_put_same h.isMap (isKey_kq r')]
      simp
    · rw [has_put_other (key hz' e), h.has r' hz']
      simp [e]
  · by_cases e : r' = r
    · subst e
      exact atKey_put_same h.isMap (isKey_kq r') _ _
    · have hm : r' ∈ S := by
        rcases List.mem_append.1 hr' with h1 | h1
        · exact h1
        · exact absurd (List.mem_singleton.1 h1) e
      rw [atKey_put_other (key (h.sz r' hm) e)]
      exact h.get r' hm z
  · rcases List.mem_append.1 hr' with h1 | h1
    · exact h.sz r' h1
    · rw [List.mem_singleton.1 h1]; exact hz
theorem MapQ.same {D : DataW Unit} {S : List RawQ} {f : RawQ → ByteArray} (h : MapQ D S f) {r : RawQ} (hr : r ∈ S) : MapQ D (S ++ [r]) f := by
  have e : ∀ x, x ∈ S ++ [r] ↔ x ∈ S := fun x => by
    rw [List.mem_append, List.mem_singleton]
    exact ⟨fun k => k.elim id fun e => e ▸ hr, .inl⟩
  exact ⟨h.isMap, fun x hx => (h.has x hx).trans (e x).symm, fun x hx z => h.get x ((e x).1 hx) z, fun x hx => h.sz x ((e x).1 hx)⟩
structure MapP (D : DataW Unit) (ks : List ByteArray) : Prop where
  isMap : IsMap D
  has : ∀ s : ByteArray, Maps.has D (.string s.data.toList) = true ↔ s ∈ ks
  get : ∀ i, i < ks.length → ∀ z, D.atKey (.string ks[i]!.data.toList) z = .lit (.int .i64 (i : Int))
theorem str_key {s u : ByteArray} (h : s ≠ u) : Lit.string s.data.toList ≠ Lit.string u.data.toList := fun e => h (by
  injection e with e
  exact ByteArray.ext (Array.ext' e))
theorem MapP.nil : MapP (.map []) [] := ⟨isMap_empty, fun r => ⟨fun h => absurd (show false = true from h) Bool.false_ne_true, fun h => absurd h (by simp)⟩, fun i h => absurd h (by simp)⟩
theorem MapP.put {D : DataW Unit} {ks : List ByteArray} (h : MapP D ks) {s : ByteArray} (hs : s ∉ ks) : MapP (D.put (.string s.data.toList) (.lit (.int .i64 (ks.length : Int)))) (ks ++ [s]) := by
  refine ⟨h.isMap.put _ _, fun u => ?_, fun i hi z => ?_⟩
  · by_cases e : u = s
    · subst e
      rw [has_put_same h.isMap (show WideAt.IsKeyLit (.string _) from trivial)]
      simp
    · rw [has_put_other (str_key e), h.has u]
      simp [e]
  · rw [List.length_append, List.length_singleton] at hi
    rcases Nat.lt_or_ge i ks.length with h1 | h1
    · have e : (ks ++ [s])[i]! = ks[i]! := by
        rw [getElem!_pos (ks ++ [s]) i (by simp; omega), getElem!_pos ks i h1, List.getElem_append_left h1]
      rw [e, atKey_put_other (str_key (fun e2 => hs (by rw [← e2]; exact getBang_memP h1)))]
      exact h.get i h1 z
    · have hi2 : i = ks.length := by omega
      subst hi2
      have e : (ks ++ [s])[ks.length]! = s := by
        rw [getElem!_pos (ks ++ [s]) ks.length (by simp)]
        simp
      rw [e]
      exact atKey_put_same h.isMap (show WideAt.IsKeyLit (.string _) from trivial) _ _
section
variable {α β : Type} [DecidableEq α] {κ : Nat → α} {arc : Nat → β} {k : Nat} {s : α}
def kinds (κ : Nat → α) (k : Nat) : List α := (repsG κ k).map κ
theorem kinds_new (hs : s = κ k) (h : s ∉ kinds κ k) : kinds κ (k + 1) = kinds κ k ++ [s] ∧ grpG κ arc (k + 1) = grpG κ arc k ++ [[arc k]] := by
  subst hs
  have h' : κ k ∉ (repsG κ k).map κ := h
  exact ⟨by unfold kinds; rw [repsG, if_neg h', List.map_append]; rfl, grpG_new h'⟩
theorem kinds_old [Inhabited α] {i : Nat} (hs : s = κ k) (hi : i < (kinds κ k).length) (h : (kinds κ k)[i]! = s) : kinds κ (k + 1) = kinds κ k ∧ grpG κ arc (k + 1) = (grpG κ arc k).modify i (· ++ [arc k]) := by
  subst hs
  rw [getElem!_pos (kinds κ k) i hi] at h
  unfold kinds at h hi
  rw [List.getElem_map] at h
  have hi' : i < (repsG κ k).length := by simpa using hi
  refine ⟨?_, grpG_old hi' h⟩
  unfold kinds
  rw [repsG, if_pos (List.mem_map.2 ⟨_, List.getElem_mem hi', h⟩)]
theorem kinds_len : (kinds κ k).length = (grpG κ arc k).length := by unfold kinds; rw [List.length_map, grpG_len]
theorem kinds_mem_get [Inhabited α] (h : s ∈ kinds κ k) : ∃ i, i < (kinds κ k).length ∧ (kinds κ k)[i]! = s := by
  obtain ⟨i, hi, e⟩ := List.mem_iff_getElem.1 h
  exact ⟨i, hi, by rw [getElem!_pos (kinds κ k) i hi]; exact e⟩
end
def mkB (l : List Nat) : ByteArray := ⟨(l.map UInt8.ofNat).toArray⟩
def rowS (k : List Nat × List Nat) : ByteArray := (((mkB k.1 ++ ⟨#[124]⟩) ++ mkB k.2) ++ ⟨#[124]⟩) ++ Utf8.encode (k.1.length : Int)
theorem mkB_size (l : List Nat) : (mkB l).size = l.length := by simp [mkB, ByteArray.size]
theorem bar_list (a b : List UInt8) (e : ByteArray) : ((((⟨a.toArray⟩ ++ ⟨#[124]⟩) ++ ⟨b.toArray⟩) ++ ⟨#[124]⟩) ++ e : ByteArray).data.toList = a ++ (124 :: (b ++ (124 :: e.data.toList))) := by
  simp only [ByteArray.data_append, Array.toList_append, List.append_assoc, List.cons_append, List.nil_append]
theorem rowS_list (k : List Nat × List Nat) : (rowS k).data.toList = k.1.map UInt8.ofNat ++ (124 :: (k.2.map UInt8.ofNat ++ (124 :: (Utf8.encode (k.1.length : Int)).data.toList))) := bar_list _ _ _
theorem split_bar : ∀ {a b x y : List UInt8}, (∀ u, u ∈ a → u ≠ 124) → (∀ u, u ∈ b → u ≠ 124) → a ++ 124 :: x = b ++ 124 :: y → a = b ∧ x = y
  | [], [], x, y, _, _, h => by injection h with _ h; exact ⟨rfl, h⟩
  | [], c :: b, x, y, _, hb, h => by injection h with h _; exact absurd h.symm (hb c (List.mem_cons_self ..))
  | c :: a, [], x, y, ha, _, h => by injection h with h _; exact absurd h (ha c (List.mem_cons_self ..))
  | c :: a, e :: b, x, y, ha, hb, h => by
    injection h with h1 h2
    obtain ⟨h3, h4⟩ := split_bar (fun u hu => ha u (List.mem_cons_of_mem _ hu)) (fun u hu => hb u (List.mem_cons_of_mem _ hu)) h2
    exact ⟨by rw [h1, h3], h4⟩
theorem map_ofNat_inj : ∀ {a b : List Nat}, (∀ x, x ∈ a → x < 256) → (∀ x, x ∈ b → x < 256) → a.map UInt8.ofNat = b.map UInt8.ofNat → a = b
  | [], [], _, _, _ => rfl
  | [], c :: b, _, _, h => by simp at h
  | c :: a, [], _, _, h => by simp at h
  | c :: a, e :: b, ha, hb, h => by
    simp only [List.map_cons, List.cons.injEq] at h
    have h1 := ha c (List.mem_cons_self ..)
    have h2 := hb e (List.mem_cons_self ..)
    have h3 := congrArg UInt8.toNat h.1
    simp at h3
    rw [Nat.mod_eq_of_lt h1, Nat.mod_eq_of_lt h2] at h3
    rw [h3, map_ofNat_inj (fun x hx => ha x (List.mem_cons_of_mem _ hx)) (fun x hx => hb x (List.mem_cons_of_mem _ hx)) h.2]
theorem symB_facts {x : Nat} (h : symB x = true) : x < 256 ∧ UInt8.ofNat x ≠ 124 := by
  unfold symB at h
  simp only [Bool.or_eq_true, decide_eq_true_eq] at h
  refine ⟨by omega, fun e => ?_⟩
  have h3 := congrArg UInt8.toNat e
  simp at h3
  omega
theorem rowS_inj {k k' : List Nat × List Nat} (h : mayI k.1 k.2 = true) (h' : mayI k'.1 k'.2 = true) (e : rowS k = rowS k') : k = k' := by
  obtain ⟨-, -, p1, p2⟩ := mayI_spec h
  obtain ⟨-, -, q1, q2⟩ := mayI_spec h'
  have e1 : (rowS k).data.toList = (rowS k').data.toList := by rw [e]
  rw [rowS_list, rowS_list] at e1
  have bar : ∀ {l : List Nat}, (∀ x, x ∈ l → symB x = true) → ∀ u, u ∈ l.map UInt8.ofNat → u ≠ 124 := fun hl u hu => by
    obtain ⟨x, hx, rfl⟩ := List.mem_map.1 hu
    exact (symB_facts (hl x hx)).2
  obtain ⟨e2, e3⟩ := split_bar (bar p1) (bar q1) e1
  obtain ⟨e4, -⟩ := split_bar (bar p2) (bar q2) e3
  exact Prod.ext (map_ofNat_inj (fun x hx => (symB_facts (p1 x hx)).1) (fun x hx => (symB_facts (q1 x hx)).1) e2) (map_ofNat_inj (fun x hx => (symB_facts (p2 x hx)).1) (fun x hx => (symB_facts (q2 x hx)).1) e4)
theorem encode_le4 (i : Int) : (Utf8.encode i).size ≤ 4 := by
  unfold Utf8.encode
  simp only
  generalize (if Utf8.valid i = true then i.toNat else Utf8.runeError) = c
  by_cases h1 : c < 0x80
  · rw [if_pos h1]; show 1 ≤ 4; omega
  · rw [if_neg h1]
    by_cases h2 : c < 0x800
    · rw [if_pos h2]; show 2 ≤ 4; omega
    · rw [if_neg h2]
      by_cases h3 : c < 0x10000
      · rw [if_pos h3]; show 3 ≤ 4; omega
      · rw [if_neg h3]; show 4 ≤ 4; omega
theorem rowS_size {k : List Nat × List Nat} : (rowS k).size ≤ k.1.length + k.2.length + 6 := by
  have h := encode_le4 (k.1.length : Int)
  have e : (rowS k).size = k.1.length + 1 + k.2.length + 1 + (Utf8.encode (k.1.length : Int)).size := by
    unfold rowS
    rw [ByteArray.size_append, ByteArray.size_append, ByteArray.size_append, ByteArray.size_append, mkB_size, mkB_size]
    rfl
  omega
theorem conv_pf {W : World} {B : Nat} {v : Value} {l : List Nat} (h : Pf W B v l) (hl : ∀ x, x ∈ l → x < 256) :
    (convert 118 9 v).run Tryz.prog W = .ok (.string (mkB l)) W := by
  obtain ⟨A, c, rfl, h1, h2, h3⟩ := h
  by_cases h0 : l = []
  · subst h0
    rcases A with _ | ad
    · rw [List.length_nil]
      simp [convert, run_underlying Tryz.underlying118, run_underlying Tryz.underlying9, run_underlying Tryz.underlying5, Conv.bytesToString]
      rfl
    · have := run_convert_bytes_back (P := Tryz.prog) W 118 9 5 ad c [] Tryz.underlying118 Tryz.underlying5 Tryz.underlying9 (fun j hj => absurd hj (by simp))
      exact this
  · obtain ⟨g, cur, rfl, -, h4, h5⟩ := h3 h0
    have := run_convert_bytes_back (P := Tryz.prog) W 118 9 5 ⟨g, 0, none⟩ c (l.map UInt8.ofNat) Tryz.underlying118 Tryz.underlying5 Tryz.underlying9 (fun j hj => by
      have hj' : j < l.length := by simpa using hj
      have hx : l[j]? = some l[j] := List.getElem?_eq_getElem hj'
      have e : ((l.map UInt8.ofNat)[j].toNat : Int) = (l[j] : Int) := by
        rw [List.getElem_map]
        have := hl l[j] (List.getElem_mem hj')
        simp
        omega
      rw [e]
      have hc : W.cell? ⟨g, j, none⟩ = some (.int .u8 (l[j] : Int)) := by
        rw [cell_of_row W g j _ _ (0, 0) h4]
        exact h5 j _ hx
      unfold Addr.add
      split
      · rename_i hz; subst hz; exact hc
      · simpa using hc)
    rw [List.length_map] at this
    exact this
end Go.Proofs.YtoaggmegmgdgbaaGreat
namespace Go.Proofs.YtoaggmegmgdgbaaGreat
open Go.RowKit Go.Sort
def okQ (Ls : List RawQ) : Bool := Ls.all fun r => okA r.1 r.2.1 r.2.2
def angQ (Ls : List RawQ) : List PT := Ls.map fun r => (be (sl r.2.1), be (sl r.2.2))
theorem angQ_snoc (Ls : List RawQ) (n1 : Bool) (a1 d1 : ByteArray) : angQ (Ls ++ [(n1, a1, d1)]) = angQ Ls ++ [(be (sl a1), be (sl d1))] := by simp [angQ]
theorem angQ_len (Ls : List RawQ) : (angQ Ls).length = Ls.length := by simp [angQ]
end Go.Proofs.YtoaggmegmgdgbaaGreat
namespace Go.Proofs.YtoaggmegmgdgbaaGreat
open Go.RowKit Go.Sort
theorem okQ_get {Ls : List RawQ} (h : okQ Ls = true) {r : RawQ} (hr : r ∈ Ls) : okA r.1 r.2.1 r.2.2 = true := List.all_eq_true.1 h r hr
theorem angQ_ang {Ls : List RawQ} (h : okQ Ls = true) : ∀ p, p ∈ angQ Ls → Ang p := fun p hp => by
  obtain ⟨r, hr, rfl⟩ := List.mem_map.1 hp
  exact (Ang.of_ok (okQ_get h hr)).1
end Go.Proofs.YtoaggmegmgdgbaaGreat
namespace Go.Proofs.YtoaggmegmgdgbaaGreat
open Go.RowKit Go.Sort Go.Maps
theorem map_below {H : Type} {P : Program} {k : TypeId} {R : Value → Option (DataW H × List MemPlace)} {w w' : World} {b n : Nat} {D : DataW H} (h : w.ownsMap P k R b n D) (hb : Below w.heap.size w w') : w'.ownsMap P k R b n D := h.kept (gb_bel hb) (fun e => by cases e)
def errR (b1 : Bool) (d : Int) (r : RawQ) : Int := ofE b1 (okA r.1 r.2.1 r.2.2) (be (sl r.2.2)) d
def errG (b1 : Bool) (d : Int) (Ls : List RawQ) : Int := match Ls.find? (fun r => decide (errR b1 d r ≠ 0)) with | some r => errR b1 d r | none => 0
theorem errG_no {b1 : Bool} {d : Int} {Ls : List RawQ} (h : ∀ j, j < Ls.length → errR b1 d Ls[j]! = 0) : errG b1 d Ls = 0 := by
  unfold errG
  rw [List.find?_eq_none.2]
  intro r hr
  obtain ⟨j, hj, rfl⟩ := List.mem_iff_getElem.1 hr
  have := h j hj
  rw [getElem!_pos Ls j hj] at this
  simp [this]
theorem errG_at {b1 : Bool} {d : Int} {Ls : List RawQ} {i : Nat} (hi : i < Ls.length) (h : ∀ j, j < i → errR b1 d Ls[j]! = 0) (h0 : errR b1 d Ls[i]! ≠ 0) : errG b1 d Ls = errR b1 d Ls[i]! := by
  unfold errG
  have e : Ls = Ls.take i ++ Ls[i] :: Ls.drop (i + 1) := by rw [← List.drop_eq_getElem_cons hi, List.take_append_drop]
  have h1 : (Ls.take i).find? (fun r => decide (errR b1 d r ≠ 0)) = none := List.find?_eq_none.2 fun r hr => by
    obtain ⟨j, hj, rfl⟩ := List.mem_iff_getElem.1 hr
    have hj2 : j < i := by rw [List.length_take] at hj; omega
    have := h j hj2
    rw [getElem!_pos Ls j (by omega)] at this
    rw [List.getElem_take]
    simp [this]
  rw [getElem!_pos Ls i hi] at h0 ⊢
  have h2 : Ls.find? (fun r => decide (errR b1 d r ≠ 0)) = some Ls[i] := by
    conv => lhs; arg 2; rw [e]
    rw [List.find?_append, h1, List.find?_cons_of_pos (by simpa using h0)]
    rfl
  rw [h2]
theorem ofE_ok {ob oa : Bool} {y : Nat} {d : Int} (h : ofE ob oa y d = 0) : ob = true ∧ oa = true ∧ 2 ≤ d ∧ d ≤ 64 ∧ orbN y d.toNat ≤ 4096 := by
  unfold ofE at h
  split at h
  · rename_i h1
    obtain ⟨k1, k2, k3, k4⟩ := mayE_ok h1
    split at h
    · omega
    · exact ⟨k1, k2, k3, k4, by omega⟩
  · rename_i h1; exact absurd h h1
theorem info_sratG : (Tryz.prog.info? 22).map (fun i => (i.zero, i.size, i.bytes)) = some (some (.slice none 0 0), 1, 24) := by kernel_rfl
theorem rdP_off {Ls : List RawQ} (h : okQ Ls = true) {w : World} {A : Option Addr} {c : Nat} (hv : 0 < Ls.length → ∃ g o, A = some ⟨g, o, none⟩ ∧ ∀ i, i < Ls.length → ∀ (j : Nat) (u : Value), (encQ Ls[i]!)[j]? = some u → w.cell? ⟨g, o + i * 3 + j, none⟩ = some u) (hn : A = none → c = 0) : RdP w (.slice A (angQ Ls).length c) (angQ Ls) := by
  refine ⟨_, _, rfl, hn, fun ad e j u hu => ?_, fun h0 => ?_⟩
  · have hl : j < (angQ Ls).length * 3 := by
      obtain ⟨h1, -⟩ := List.getElem?_eq_some_iff.1 hu
      rwa [flatMap_len encP 3 encP_len] at h1
    have hq : j / 3 < (angQ Ls).length := by omega
    have hq2 : j / 3 < Ls.length := by rwa [angQ_len] at hq
    obtain ⟨g, o, h1, h2⟩ := hv (by omega)
    rw [h1] at e
    injection e with e
    subst e
    have e1 := flatMap_get encP 3 encP_len (angQ Ls) (j / 3) (j % 3) hq (Nat.mod_lt _ (by decide))
    rw [show j / 3 * 3 + j % 3 = j by omega, hu] at e1
    have hm : Ls[j / 3] ∈ Ls := List.getElem_mem hq2
    obtain ⟨-, k1, k2, k3⟩ := Ang.of_ok (okQ_get h hm)
    have e2 : encP (angQ Ls)[j / 3] = encQ Ls[j / 3]! := by
      rw [getElem!_pos Ls _ hq2]
      simp only [angQ, List.getElem_map, encP, encQ]
      rw [k1, ← k2, ← k3]
    rw [e2] at e1
    have h3 := h2 (j / 3) hq2 (j % 3) u e1.symm
    rw [show o + j / 3 * 3 + j % 3 = o + j by omega] at h3
    unfold Addr.add
    split
    · rename_i hz
      subst hz
      simpa using h3
    · simpa using h3
  · rw [angQ_len] at h0
    obtain ⟨g, o, h1, -⟩ := hv h0
    rw [h1]; rfl
theorem row_map_ne {H : Type} {w : World} {B n m b : Nat} {T : TypeId} {size : Nat} {v : Value} {xs : List Value} {P : Program} {k : TypeId} {RR : Value → Option (DataW H × List MemPlace)} {D : DataW H} (h : w.ownsRow B T size v n xs) (hm : w.ownsMap P k RR b m D) : v.ownBlock ≠ some b := fun e => by
  obtain ⟨es, clock, h1, -⟩ := hm
  rcases h.2 with ⟨rfl, -⟩ | ⟨g, cap, cur, rfl, -, h2, -⟩
  · cases e
  · have e : some g = some b := e
    injection e with e
    subst e
    rw [h1] at h2
    injection h2 with h2
    cases h2
theorem kinds_step {α β : Type} [DecidableEq α] [Inhabited α] {κ : Nat → α} {arc : Nat → β} {k : Nat} {s : α} (hs : s = κ k) : ∃ (gi : Nat) (out2 : List (List β)), gi < out2.length ∧ grpG κ arc (k + 1) = out2.modify gi (· ++ [arc k]) ∧
    ((s ∈ kinds κ k ∧ out2 = grpG κ arc k ∧ kinds κ (k + 1) = kinds κ k ∧ gi < (kinds κ k).length ∧ (kinds κ k)[gi]! = s) ∨ (s ∉ kinds κ k ∧ out2 = grpG κ arc k ++ [[]] ∧ kinds κ (k + 1) = kinds κ k ++ [s] ∧ gi = (grpG κ arc k).length)) := by
  by_cases h : s ∈ kinds κ k
  · obtain ⟨i, hi, e⟩ := kinds_mem_get h
    obtain ⟨h1, h2⟩ := kinds_old (arc := arc) hs hi e
    exact ⟨i, grpG κ arc k, by rw [← kinds_len]; exact hi, h2, .inl ⟨h, rfl, h1, hi, e⟩⟩
  · obtain ⟨h1, h2⟩ := kinds_new (arc := arc) hs h
    exact ⟨(grpG κ arc k).length, grpG κ arc k ++ [[]], by simp, by rw [h2, modify_end], .inr ⟨h, rfl, h1, rfl⟩⟩
section
variable {H : Type} {P : Program} {ops : Array Oper} {rest : List Oper} {o : Oper} {a : Act} {Q : Exit → Act → World → Prop}
theorem wpList_look_str_is (w : World) (hg : o.guard = none) (m x : Operand) (t : TypeId) (hop : o.op = Op.lookup t m x false)
    (k e : TypeId) (K : Keyed P k) (ht : P.underlying t = some (.map k e)) (he : P.underlying e = some .string) (hz : (zeroValue e).run P w = .ok (.string ⟨#[]⟩) w) (b n : Nat) (D : DataW H)
    (hm : a.eval m = .map (some b)) (hown : w.ownsMap P k (plainElem P e) b n D) (key : Value) (kl : Lit) (hx : a.eval x = key) (hkey : keyOf P k key = some kl) (s0 : ByteArray)
    (hat : D.atKey kl (.lit (.string [])) = .lit (.string s0.data.toList)) (hK : wpList P ops Q rest (a.put o.dst (.string s0)) w) :
    wpList P ops Q (o :: rest) a w :=
  wpList_look_str w hg m x t hop k e K ht he hz b n D hm hown key kl hx hkey (fun c hc => by
    have e : c = s0 := by
      rw [hat] at hc
      injection hc with hc
      injection hc with hc
      exact ByteArray.ext (Array.ext' hc.symm)
    rw [e]; exact hK)
end
def strQ (s t d : Nat) (r : RawQ) : ByteArray := rowS (rowK s t d (be (sl r.2.1), be (sl r.2.2)))
def strK (s t d : Nat) (p : PT) : ByteArray := rowS (rowK s t d p)
theorem rowK_sizes {s t d : Nat} {p : PT} (hd : 2 ≤ d) (hd2 : d ≤ 64) (hp : 0 < p.2) (hn : orbN p.2 d ≤ 4096) : mayI (rowK s t d p).1 (rowK s t d p).2 = true := of_may (by omega) hd2 hp hn
set_option maxRecDepth 100000 in
set_option maxHeartbeats 8000000 in
theorem lGroups_any (v : Value) (Ls : List RawQ) (n1 : Bool) (a1 d1 : ByteArray) (d : Int) (w : World) (hv : RdK 3 encQ w v Ls) (hz : ∀ r, r ∈ Ls → szQ r) (hnl : ∀ n c, v = .slice none n c → c = 0) (z1 : a1.size ≤ 9223372036854775807) (y1 : d1.size ≤ 9223372036854775807) (hlen : Ls.length ≤ 200) :
    Calls Tryz.prog 54 #[.agg #[.bool n1, .string a1, .string d1], .int .i64 d, v] w fun e w' =>
      (errG (okA n1 a1 d1) d Ls = 0 ∧ ∃ v' vs, e = .returned (.tuple #[v', .int .i64 0]) ∧ NestP w' w.heap.size 22 26 3 encP [] v' vs (grpE (rowK (be (sl a1)) (be (sl d1)) d.toNat) (riseL (angQ Ls))) ∧ Below w.heap.size w w') ∨
      (errG (okA n1 a1 d1) d Ls ≠ 0 ∧ e = .returned (.tuple #[.slice none 0 0, .int .i64 (errG (okA n1 a1 d1) d Ls)]) ∧ Below w.heap.size w w') := by
  have hBW : Below w.heap.size w (w.alloc (.cells #[.bool n1, .string a1, .string d1] 26)) := (Below.refl _ w).alloc (Nat.le_refl _) _
  have kBy := Lib.hid (Blk.new w 26 #[.bool n1, .string a1, .string d1])
  have hB := Lib.hid hBW
  clear hBW
  have hmm := @run_makeMap Tryz.prog
  obtain ⟨b1, hb1⟩ : ∃ b, b = okA n1 a1 d1 := ⟨_, rfl⟩
  obtain ⟨s, hs⟩ : ∃ x, x = be (sl a1) := ⟨_, rfl⟩
  obtain ⟨t, ht⟩ : ∃ x, x = be (sl d1) := ⟨_, rfl⟩
  obtain ⟨dn, hdn⟩ : ∃ x, x = d.toNat := ⟨_, rfl⟩
  rw [← hb1, ← hs, ← ht, ← hdn]
  have cOf : Hid (∀ (r : RawQ) (W : World), szQ r → Calls Tryz.prog 58 #[.agg #[.bool n1, .string a1, .string d1], .agg #[.bool r.1, .string r.2.1, .string r.2.2], .int .i64 d] W (RetRowE (if errR b1 d r = 0 then (rowK s t dn (be (sl r.2.1), be (sl r.2.2))).1 else []) (if errR b1 d r = 0 then (rowK s t dn (be (sl r.2.1), be (sl r.2.2))).2 else []) (errR b1 d r) W)) := Lib.hid (fun r W hr => iOf_any n1 a1 d1 r.1 r.2.1 r.2.2 d W z1 y1 hr.1 hr.2 _ (by rw [hb1]; rfl) _ _ (by rw [hs, ht, hdn]; rfl) (by rw [hs, ht, hdn]; rfl))
  have hmay : Hid (∀ r : RawQ, errR b1 d r = 0 → mayI (rowK s t dn (be (sl r.2.1), be (sl r.2.2))).1 (rowK s t dn (be (sl r.2.1), be (sl r.2.2))).2 = true) := Lib.hid (fun r hr => by
    obtain ⟨-, k2, k3, k4, k5⟩ := ofE_ok hr
    have hp := (Ang.of_ok k2).1.2.1
    rw [← hdn] at k5
    exact rowK_sizes (by omega) (by omega) (by simp only at hp ⊢; omega) k5)
  have hRd := Lib.hid (fun W (hb : Below w.heap.size w W) => RdK.below hv hb)
  obtain ⟨A, c, rfl, hA⟩ := hv
  have hnil := Lib.hid (fun h : A = none => hnl Ls.length c (by rw [h]))
  obtain ⟨n, hn⟩ : ∃ n, n = Ls.length := ⟨_, rfl⟩
  have hszr : Hid (∀ i, i < n → szQ Ls[i]!) := Lib.hid (fun i hi => hz _ (getBang_memP (by omega)))
  have hcel : Hid (0 < n → ∃ g o, A = some ⟨g, o, none⟩ ∧ ∀ W, Below w.heap.size w W → ∀ i, i < n → ∀ (j : Nat) (u : Value), (encQ Ls[i]!)[j]? = some u → W.cell? ⟨g, o + i * 3 + j, none⟩ = some u) := Lib.hid (fun h0 => by
    obtain ⟨g, o, hA1, hA2⟩ := hA (by omega)
    refine ⟨g, o, hA1, fun W hb i hi j u hu => ?_⟩
    have h1 := hA2 i (by omega) j u hu
    rw [hb.cell (block_lt_of_cell h1)]
    exact h1)
  rw [← hn] at hlen ⊢
  obtain ⟨EG, hEG⟩ : ∃ e, e = errG b1 d Ls := ⟨_, rfl⟩
  rw [← hEG]
  replace hEG := Lib.hid hEG
  replace hn := Lib.hid hn
  have hn2z : ¬ (4096 : Int) < (n : Int) := by omega
  clear hA hz hnl
  go_enter Tryz.func54, Tryz.ntmps54
  go_upto_region 3 with fail
  generalize hW : w.alloc (.cells #[.bool n1, .string a1, .string d1] 26) = w1 at kBy hB ⊢
  clear hW
  go_upto_region 4 with fail
  have hM0 : Hid ((w1.alloc (.map #[] 0)).ownsMap Tryz.prog 26 (plainElem (H := Unit) Tryz.prog 9) w1.heap.size 0 (.map [])) := Lib.hid (World.ownsMap_made _ _ _ _)
  have hgmB : w.heap.size ≤ w1.heap.size := hB.out.size
  have hgn : w.heap.size < w1.heap.size := kBy.out.lt
  replace kBy := Lib.hid (Blk.alloc kBy.out (.map #[] 0))
  replace hB : Hid (Below w.heap.size w (w1.alloc (.map #[] 0))) := Lib.hid (hB.out.alloc hB.out.size _)
  generalize hW : w1.alloc (.map #[] 0) = w2 at hM0 kBy hB ⊢
  generalize hgm : w1.heap.size = gm at hM0 hgmB hgn ⊢
  clear hW hgm w1
  replace hgmB := Lib.hid hgmB
  replace hgn := Lib.hid hgn
  go_wp2_with fail
  go_loopg [27] n (fun kx s27 wr => ∃ (i km : Nat) (D : DataW Unit), s27 = .int .i64 (i : Int) ∧ i ≤ n ∧ n - i ≤ kx ∧ Hid (MapQ D (Ls.take i) (strQ s t dn)) ∧ Hid (wr.ownsMap Tryz.prog 26 (plainElem (H := Unit) Tryz.prog 9) gm km D) ∧ km ≤ i ∧ Hid (∀ j, j < i → errR b1 d Ls[j]! = 0) ∧ Hid (Blk wr w.heap.size 26 #[.bool n1, .string a1, .string d1]) ∧ Hid (Below w.heap.size w wr))
  case atStart => exact ⟨0, 0, .map [], rfl, Nat.zero_le _, Nat.le_refl _, Lib.hid (MapQ.nil _), hM0, Nat.le_refl _, Lib.hid (fun j hj => absurd hj (Nat.not_lt_zero _)), kBy, hB⟩
  case round =>
    clear hM0 kBy hB
    obtain ⟨i, km, D, rfl, hin, hg, hMQ, hM, hkm, hE0, kBy, hB⟩ := hrel
    by_cases hlt : i < n
    case neg =>
      obtain rfl : n = i := by omega
      have hok : Hid (okQ Ls = true) := Lib.hid (List.all_eq_true.2 fun r hr => by
        obtain ⟨j, hj, rfl⟩ := List.mem_iff_getElem.1 hr
        have h := hE0.out j (by rw [hn.out]; exact hj)
        rw [getElem!_pos Ls j hj] at h
        exact (ofE_ok h).2.1)
      have hRdP : Hid (∀ W, Below w.heap.size w W → RdP W (.slice A (angQ Ls).length c) (angQ Ls)) := Lib.hid (fun W hb => rdP_off hok.out (fun h0 => by
        obtain ⟨g, o, h1, h2⟩ := hcel.out (by rw [hn.out]; exact h0)
        exact ⟨g, o, h1, fun i hi => h2 W hb i (by rw [hn.out]; exact hi)⟩) hnil.out)
      obtain ⟨E, hE⟩ : ∃ E, E = riseL (angQ Ls) := ⟨_, rfl⟩
      have hOn : Hid (∀ W, Below w.heap.size w W → Calls Tryz.prog 61 #[.slice A n c] W fun e w' => ∃ v', e = .returned v' ∧ Hid (w'.ownsRow W.heap.size 26 3 v' E.length (E.flatMap encP)) ∧ Hid (Below W.heap.size W w')) := Lib.hid (fun W hb => by
        have h := lonce_any _ (angQ Ls) W (hRdP.out W hb) (angQ_ang hok.out) (by rw [angQ_len, ← hn.out]; omega)
        rw [angQ_len, ← hn.out, ← hE] at h
        exact h)
      have hEA : Hid (∀ q, q ∈ E → Ang q) := Lib.hid (fun q hq => angQ_ang hok.out q (riseL_mem.1 (by rw [← hE]; exact hq)))
      have hEm : Hid (∀ q, q ∈ E → ((false, natS q.1, natS q.2) : RawQ) ∈ Ls ∧ 2 ≤ dn ∧ dn ≤ 64 ∧ orbN q.2 dn ≤ 4096) := Lib.hid (fun q hq => by
        have h1 : q ∈ angQ Ls := riseL_mem.1 (by rw [← hE]; exact hq)
        obtain ⟨r, hr, e⟩ := List.mem_map.1 h1
        obtain ⟨-, k1, k2, k3⟩ := Ang.of_ok (okQ_get hok.out hr)
        have h2 : r = (false, natS q.1, natS q.2) := by
          rw [← e]
          exact Prod.ext k1 (Prod.ext k2 k3)
        obtain ⟨j, hj, e2⟩ := List.mem_iff_getElem.1 hr
        have h3 := hE0.out j (by rw [hn.out]; exact hj)
        rw [getElem!_pos Ls j hj, e2] at h3
        obtain ⟨-, -, k4, k5, k6⟩ := ofE_ok h3
        rw [h2] at hr
        refine ⟨hr, by omega, by omega, ?_⟩
        rw [hdn, ← e]; exact k6)
      have hEz : Hid (E.length ≤ 200) := Lib.hid (by
        have h := riseL_len (angQ Ls)
        rw [angQ_len, ← hE, ← hn.out] at h
        omega)
      have hE00 : Hid (EG = 0) := Lib.hid (by rw [hEG.out]; exact errG_no (fun j hj => hE0.out j (by rw [hn.out]; exact hj)))
      have hMQn : Hid (MapQ D Ls (strQ s t dn)) := Lib.hid (by
        have h := hMQ.out
        rw [hn.out, List.take_length] at h
        exact h)
      have hkml : km ≤ 200 := by omega
      obtain ⟨i0, hi, hz0, hz1, hz2⟩ := info_parts info_ratG
      obtain ⟨i1, ji, jz0, jz1, jz2⟩ := info_parts info_sratG
      replace hE := Lib.hid hE
      clear hRdP hnil hcel hszr hmay cOf hMQ hE0 kBy hRd
      go_upto_region 15 with fail
      have hMP0 : Hid ((wr.alloc (.map #[] 0)).ownsMap Tryz.prog 9 (plainElem (H := Unit) Tryz.prog 3) wr.heap.size 0 (.map [])) := Lib.hid (World.ownsMap_made _ _ _ _)
      have hgpB : w.heap.size ≤ wr.heap.size := hB.out.size
      have hgpm : gm < wr.heap.size := World.ownsMap.lt hM.out
      replace hM := Lib.hid (World.ownsMap.alloc hM.out (.map #[] 0))
      replace hB : Hid (Below w.heap.size w (wr.alloc (.map #[] 0))) := Lib.hid (hB.out.alloc hB.out.size _)
      generalize hW : wr.alloc (.map #[] 0) = w7 at hMP0 hM hB ⊢
      generalize hgp : wr.heap.size = gp at hMP0 hgpB hgpm ⊢
      clear hW hgp
      replace hgpB := Lib.hid hgpB
      replace hgpm := Lib.hid hgpm
      go_wp2_with fail
      refine (hOn.out w7 hB.out).mono ?_
      rintro en w8 ⟨v8, rfl, hEo, hb0⟩
      have hb := hb0.out
      replace hEo := Lib.hid (row_mono hEo.out hB.out.size)
      replace hM := Lib.hid (map_below hM.out hb)
      replace hMP0 := Lib.hid (map_below hMP0.out hb)
      replace hB := Lib.hid (hB.out.trans (hb.mono hB.out.size))
      obtain ⟨nE, hnE⟩ : ∃ k, k = E.length := ⟨_, rfl⟩
      rw [← hnE] at hEo hEz
      obtain ⟨AE, cE, rfl, -, hAE⟩ := own_form hEo.out
      replace hnE := Lib.hid hnE
      replace hAE := Lib.hid hAE
      clear hb hb0 hOn
      have hS0 : Hid (NestP w8 w.heap.size 22 26 3 encP [itRow w.heap.size 26 3 (.slice AE nE cE) nE (E.flatMap encP), itMap Tryz.prog 26 (plainElem (H := Unit) Tryz.prog 9) gm km D, itMap Tryz.prog 9 (plainElem (H := Unit) Tryz.prog 3) gp 0 (.map [])] (.slice none 0 0) [] []) := Lib.hid (by
        have s0 : Sep w8 ([] ++ [itRow w.heap.size 26 3 (.slice AE nE cE) nE (E.flatMap encP)]) := Sep.nil.snoc (row_mono hEo.out (Nat.le_refl _)) (fun x hx => by simp at hx)
        have s1 := s0.snoc (a := itMap Tryz.prog 26 (plainElem (H := Unit) Tryz.prog 9) gm km D) hM.out (fun x hx k hk hk2 => by
          rw [List.nil_append, List.mem_singleton] at hx
          subst hx
          have hk : some gm = some k := hk
          injection hk with hk
          subst hk
          exact row_map_ne hEo.out hM.out hk2)
        have s2 := s1.snoc (a := itMap Tryz.prog 9 (plainElem (H := Unit) Tryz.prog 3) gp 0 (.map [])) hMP0.out (fun x hx k hk hk2 => by
          have hk : some gp = some k := hk
          injection hk with hk
          subst hk
          rcases List.mem_append.1 hx with hx | hx
          · rw [List.nil_append, List.mem_singleton] at hx
            subst hx
            exact row_map_ne hEo.out hMP0.out hk2
          · rw [List.mem_singleton] at hx
            subst hx
            have hk2 : some gm = some gp := hk2
            injection hk2 with hk2
            exact absurd hk2 (Nat.ne_of_lt hgpm.out))
        have s3 := s2.snoc (a := itRow w.heap.size 22 1 (.slice none 0 0) 0 []) (World.ownsRow_nil _ _ _ _) (fun x _ k hk => by cases hk)
        exact ⟨rfl, s3⟩)
      clear hEo hM hMP0
      go_wp2_with fail
      go_loopg [70, 16] nE (fun kx s70 s16 wr => ∃ (k kp : Nat) (DP : DataW Unit) (v16 : Value) (vs : List Value), s70 = .int .i64 (k : Int) ∧ v16 = s16 ∧ k ≤ nE ∧ nE - k ≤ kx ∧ kp ≤ k ∧ Hid (MapP DP (kinds (fun k => strK s t dn E[k]!) k)) ∧ Hid (NestP wr w.heap.size 22 26 3 encP [itRow w.heap.size 26 3 (.slice AE nE cE) nE (E.flatMap encP), itMap Tryz.prog 26 (plainElem (H := Unit) Tryz.prog 9) gm km D, itMap Tryz.prog 9 (plainElem (H := Unit) Tryz.prog 3) gp kp DP] v16 vs (grpG (fun k => strK s t dn E[k]!) (fun k => E[k]!) k)) ∧ Hid (Below w.heap.size w wr))
      case atStart => exact ⟨0, 0, .map [], _, [], rfl, rfl, Nat.zero_le _, Nat.le_refl _, Nat.le_refl _, Lib.hid MapP.nil, hS0, hB⟩
      case round =>
        clear hB hS0
        obtain ⟨k, kp, DP, v16, vs, rfl, rfl, hkn, hg, hkp, hMP, hS, hB⟩ := hrel
        obtain ⟨out, hout⟩ : ∃ o, o = grpG (fun k => strK s t dn E[k]!) (fun k => E[k]!) k := ⟨_, rfl⟩
        rw [← hout] at hS
        have hkz2 : k ≤ 200 := Nat.le_trans hkn hEz.out
        by_cases hlt : k < nE
        case neg =>
          obtain rfl : nE = k := by omega
          obtain ⟨A9, c9, rfl, -, -⟩ := own_form hS.out.row
          have hfin : Hid (out = grpE (rowK s t dn) (riseL (angQ Ls))) := Lib.hid (by
            rw [hout, ← hE.out, hnE.out]
            refine grpG_congr fun i j hi hj => ?_
            have mi := hEm.out _ (getBang_memP hi)
            have mj := hEm.out _ (getBang_memP hj)
            have pi := (hEA.out _ (getBang_memP hi)).2.1
            have pj := (hEA.out _ (getBang_memP hj)).2.1
            constructor
            · intro e
              exact rowS_inj (rowK_sizes mi.2.1 mi.2.2.1 (by omega) mi.2.2.2) (rowK_sizes mj.2.1 mj.2.2.1 (by omega) mj.2.2.2) e
            · intro e
              show rowS _ = rowS _
              rw [e])
          clear hout
          go_wp2_with fail
          go_ret2
          refine .inl ⟨hE00.out, _, vs, rfl, ?_, hB.out⟩
          rw [← hfin.out]
          exact hS.out.bare
        case pos =>
          obtain ⟨gE, rfl⟩ := hAE.out (by omega)
          obtain ⟨p, hp⟩ : ∃ p, p = E[k]! := ⟨_, rfl⟩
          have hkE : k < E.length := by rw [← hnE.out]; exact hlt
          have hC := row_cellP (hS.out.2.get (a := itRow w.heap.size 26 3 (.slice (some ⟨gE, 0, none⟩) nE cE) nE (E.flatMap encP)) (by simp)) hkE hnE.out
          rw [← hp] at hC
          have hpm := hEm.out p (by rw [hp]; exact getBang_memP hkE)
          have hpA := hEA.out p (by rw [hp]; exact getBang_memP hkE)
          obtain ⟨sk, hsk⟩ : ∃ x, x = strK s t dn p := ⟨_, rfl⟩
          have hskz : Hid (sk.size ≤ maxLen) := Lib.hid (by
            have h1 := rowK_sizes (s := s) (t := t) hpm.2.1 hpm.2.2.1 (show 0 < p.2 by have := hpA.2.1; omega) hpm.2.2.2
            have h2 := (mayI_spec h1).2.1
            have h3 := rowS_size (k := rowK s t dn p)
            rw [hsk]; unfold strK maxLen; omega)
          have hsq : strQ s t dn (false, natS p.1, natS p.2) = sk := by rw [hsk]; unfold strQ strK; simp only [be_natS]
          have hat0 : Hid (∀ z, D.atKey (kq (false, natS p.1, natS p.2)) z = .lit (.string sk.data.toList)) := Lib.hid (fun z => by rw [hMQn.out.get _ hpm.1 z, hsq])
          have hkey := Lib.hid (keyQ false (natS p.1) (natS p.2) (hMQn.out.sz _ hpm.1).1 (hMQn.out.sz _ hpm.1).2)
          have hkeyS := Lib.hid (WideMaps.keyOf_string_mk Tryz.underlying9 hskz.out)
          have hsk0 : Hid (sk = (fun k => strK s t dn E[k]!) k) := Lib.hid (by rw [hsk, hp])
          obtain ⟨gi, out2, hgi2, hmod, hcase⟩ := kinds_step (κ := fun k => strK s t dn E[k]!) (arc := fun k => E[k]!) (k := k) (s := sk) hsk0.out
          rw [← hout] at hcase
          have hcase := Lib.hid hcase
          have hmod := Lib.hid hmod
          have hol : Hid (∀ x, x ∈ out → x.length ≤ k) := Lib.hid (by rw [hout]; exact grpG_ilen k)
          have holl : Hid (out.length ≤ k) := Lib.hid (by rw [hout, grpG_len]; exact repsG_len k)
          have c0 : wr.cell? ⟨gE, k * 3, none⟩ = some (.bool false) := hC 0 _ rfl
          have c1 : wr.cell? ⟨gE, k * 3 + 1, none⟩ = some (.string (natS p.1)) := hC 1 _ rfl
          have c2 : wr.cell? ⟨gE, k * 3 + 2, none⟩ = some (.string (natS p.2)) := hC 2 _ rfl
          have hkz : (k : Int) < (nE : Int) := by omega
          have hwk : Hid (IntKind.i64.wrap ((k : Int) + 1) = (k : Int) + 1) := Lib.hid (by rw [IntKind.wrap_i64]; omega)
          replace hp := Lib.hid hp
          replace hout := Lib.hid hout
          replace hsk := Lib.hid hsk
          replace hgi2 := Lib.hid hgi2
          clear hC hsq hpm hpA
          go_upto_region 19 with fail
          replace hB := Lib.hid (hB.out.alloc hB.out.size (.cells #[.bool false, .string (natS p.1), .string (natS p.2)] 26))
          replace hS : Hid (NestP (wr.alloc (.cells #[.bool false, .string (natS p.1), .string (natS p.2)] 26)) w.heap.size 22 26 3 encP [itRow w.heap.size 26 3 (.slice (some ⟨gE, 0, none⟩) nE cE) nE (E.flatMap encP), itMap Tryz.prog 26 (plainElem (H := Unit) Tryz.prog 9) gm km D, itMap Tryz.prog 9 (plainElem (H := Unit) Tryz.prog 3) gp kp DP, itBlk wr.heap.size 26 #[.bool false, .string (natS p.1), .string (natS p.2)]] v16 vs out) := Lib.hid (hS.out.addNew (World.grownBy_alloc wr (.cells #[.bool false, .string (natS p.1), .string (natS p.2)] 26) none) (Blk.new wr 26 #[.bool false, .string (natS p.1), .string (natS p.2)]) (fun q hq => by injection hq with hq; exact Nat.le_of_eq hq))
          generalize hW : wr.alloc (.cells #[.bool false, .string (natS p.1), .string (natS p.2)] 26) = wa at hB hS ⊢
          generalize hgf : wr.heap.size = gf at hS ⊢
          clear hW hgf c0 c1 c2
          have hKf : Blk wa gf 26 #[.bool false, .string (natS p.1), .string (natS p.2)] := hS.out.2.get (a := itBlk gf 26 #[.bool false, .string (natS p.1), .string (natS p.2)]) (by simp)
          have k0 : wa.cell? ⟨gf, 0, none⟩ = some (.bool false) := hKf.cell 0
          have k1 : wa.cell? ⟨gf, 1, none⟩ = some (.string (natS p.1)) := hKf.cell 1
          have k2 : wa.cell? ⟨gf, 2, none⟩ = some (.string (natS p.2)) := hKf.cell 2
          have hmQ : Hid (wa.ownsMap Tryz.prog 26 (plainElem (H := Unit) Tryz.prog 9) gm km D) := Lib.hid (hS.out.2.get (a := itMap Tryz.prog 26 (plainElem (H := Unit) Tryz.prog 9) gm km D) (by simp))
          have hmP : Hid (wa.ownsMap Tryz.prog 9 (plainElem (H := Unit) Tryz.prog 3) gp kp DP) := Lib.hid (hS.out.2.get (a := itMap Tryz.prog 9 (plainElem (H := Unit) Tryz.prog 3) gp kp DP) (by simp))
          obtain ⟨hh, hhh⟩ : ∃ b, b = Maps.has DP (.string sk.data.toList) := ⟨_, rfl⟩
          replace hhh := Lib.hid hhh
          clear hKf
          go_upto_if 83 with (first | (at_lookup; refine wpList_look_str_is _ rfl _ _ 175 rfl 26 9 lawRat Tryz.underlying175 Tryz.underlying9 (zeroStr _) gm km D rfl hmQ.out _ _ rfl hkey.out sk (hat0.out _) ?_) | (at_lookup; refine wpList_lookup_own_ok_int _ rfl _ _ 177 rfl 9 3 .i64 lawStr Tryz.underlying177 Tryz.underlying3 (zeroI _) gp kp DP rfl hmP.out _ (.string sk.data.toList) rfl hkeyS.out ?_; intro cv hat hwc; rw [← hhh.out]; replace hat := Lib.hid hat; replace hwc := Lib.hid hwc))
          have hvl : vs.length = out.length := hS.out.1
          have hvk : vs.length ≤ 200 := by have := holl.out; omega
          replace hvl := Lib.hid hvl
          obtain ⟨ks2, hks2⟩ : ∃ q, kinds (fun k => strK s t dn E[k]!) (k + 1) = q := ⟨_, rfl⟩
          rw [hks2] at hcase
          go_cut [19, 16] from 75 to 104 (fun s19 s16 wx => ∃ (vx : Value) (vsx : List Value) (DPx : DataW Unit), s19 = .int .i64 (gi : Int) ∧ vx = s16 ∧ Hid (MapP DPx ks2) ∧ Hid (NestP wx w.heap.size 22 26 3 encP [itRow w.heap.size 26 3 (.slice (some ⟨gE, 0, none⟩) nE cE) nE (E.flatMap encP), itMap Tryz.prog 26 (plainElem (H := Unit) Tryz.prog 9) gm km D, itMap Tryz.prog 9 (plainElem (H := Unit) Tryz.prog 3) gp (kp + 1) DPx, itBlk gf 26 #[.bool false, .string (natS p.1), .string (natS p.2)]] vx vsx out2) ∧ Hid (Below w.heap.size w wx))
          case first =>
            cases hh
            case true =>
              obtain ⟨hmem, ho2, hk2, hgl, hgs⟩ : sk ∈ kinds (fun k => strK s t dn E[k]!) k ∧ out2 = out ∧ ks2 = kinds (fun k => strK s t dn E[k]!) k ∧ gi < (kinds (fun k => strK s t dn E[k]!) k).length ∧ (kinds (fun k => strK s t dn E[k]!) k)[gi]! = sk := by
                rcases hcase.out with h | h
                · exact h
                · exact absurd ((hMP.out.has sk).1 hhh.out.symm) h.1
              obtain rfl : cv = (gi : Int) := by
                have h := hat.out
                have h2 := hMP.out.get gi hgl (.lit (.int .i64 0))
                rw [hgs] at h2
                rw [h2] at h
                injection h with h
                injection h with h h2
                exact h2.symm
              have hMP2 : Hid (MapP DP ks2) := Lib.hid (by rw [hk2]; exact hMP.out)
              have hS2 : Hid (NestP wa w.heap.size 22 26 3 encP [itRow w.heap.size 26 3 (.slice (some ⟨gE, 0, none⟩) nE cE) nE (E.flatMap encP), itMap Tryz.prog 26 (plainElem (H := Unit) Tryz.prog 9) gm km D, itMap Tryz.prog 9 (plainElem (H := Unit) Tryz.prog 3) gp (kp + 1) DP, itBlk gf 26 #[.bool false, .string (natS p.1), .string (natS p.2)]] v16 vs out2) := Lib.hid (by
                rw [ho2]
                exact hS.out.side (A := [itRow w.heap.size 26 3 (.slice (some ⟨gE, 0, none⟩) nE cE) nE (E.flatMap encP), itMap Tryz.prog 26 (plainElem (H := Unit) Tryz.prog 9) gm km D]) (C := [itBlk gf 26 #[.bool false, .string (natS p.1), .string (natS p.2)]]) (a' := itMap Tryz.prog 9 (plainElem (H := Unit) Tryz.prog 3) gp (kp + 1) DP) (gb_refl wa _) (World.ownsMap.mono hmP.out (Nat.le_succ kp)) (fun q hq => .inl hq))
              clear hmem hS ho2 hk2 hgl hgs
              go_wp2_with fail
              go_meet
              case rel => exact ⟨_, _, DP, rfl, rfl, hMP2, hS2, hB⟩
            case false =>
              obtain ⟨hmem, ho2, hk2, hge⟩ : sk ∉ kinds (fun k => strK s t dn E[k]!) k ∧ out2 = out ++ [[]] ∧ ks2 = kinds (fun k => strK s t dn E[k]!) k ++ [sk] ∧ gi = out.length := by
                rcases hcase.out with h | h
                · have h2 := (hMP.out.has sk).2 h.1
                  rw [← hhh.out] at h2
                  exact Bool.noConfusion h2
                · exact h
              have hkl : (kinds (fun k => strK s t dn E[k]!) k).length = vs.length := by rw [kinds_len (arc := fun k => E[k]!), ← hout.out, hvl.out]
              have hMP2 : Hid (MapP (DP.put (.string sk.data.toList) (.lit (.int .i64 (vs.length : Int)))) ks2) := Lib.hid (by
                have h := hMP.out.put hmem
                rw [hkl] at h
                rw [hk2]; exact h)
              have hge2 : Hid (gi = vs.length) := Lib.hid (by rw [hge, hvl.out])
              have ho2 := Lib.hid ho2
              clear hmem hk2 hge hkl
              obtain ⟨A9, c9, rfl, -, -⟩ := own_form hS.out.row
              go_upto_region 23 with (first | (at_lookup; refine wpList_look_str_is _ rfl _ _ 175 rfl 26 9 lawRat Tryz.underlying175 Tryz.underlying9 (zeroStr _) gm km D rfl hmQ.out _ _ rfl hkey.out sk (hat0.out _) ?_) | (at_mapUpdate; refine wpList_mapUpdate_own _ rfl _ _ _ 177 rfl 9 3 lawStr Tryz.underlying177 _ gp kp _ rfl hmP.out (by unfold maxLen; omega) _ _ _ rfl rfl hkeyS.out _ [] (plainElem_int Tryz.underlying3 (WalkArith.wf_i64 (by omega))) ?_; intro w1 hmap1 hgrow1))
              have hS1 : Hid (NestP w1 w.heap.size 22 26 3 encP [itRow w.heap.size 26 3 (.slice (some ⟨gE, 0, none⟩) nE cE) nE (E.flatMap encP), itMap Tryz.prog 26 (plainElem (H := Unit) Tryz.prog 9) gm km D, itMap Tryz.prog 9 (plainElem (H := Unit) Tryz.prog 3) gp (kp + 1) (DP.put (.string sk.data.toList) (.lit (.int .i64 (vs.length : Int)))), itBlk gf 26 #[.bool false, .string (natS p.1), .string (natS p.2)]] (.slice A9 vs.length c9) vs out) := Lib.hid (hS.out.side (A := [itRow w.heap.size 26 3 (.slice (some ⟨gE, 0, none⟩) nE cE) nE (E.flatMap encP), itMap Tryz.prog 26 (plainElem (H := Unit) Tryz.prog 9) gm km D]) (C := [itBlk gf 26 #[.bool false, .string (natS p.1), .string (natS p.2)]]) (a' := itMap Tryz.prog 9 (plainElem (H := Unit) Tryz.prog 3) gp (kp + 1) (DP.put (.string sk.data.toList) (.lit (.int .i64 (vs.length : Int))))) hgrow1 hmap1 (fun q hq => .inl hq))
              have hB1 : Hid (Below w.heap.size w w1) := Lib.hid (hB.out.grown hgrow1 hB.out.size (fun q hq => by injection hq with hq; subst hq; exact hgpB.out))
              have hrow1 := Lib.hid hS1.out.row
              have hBs := hB1.out.size
              clear hgrow1 hmap1 hS hB
              go_wp2_with (at_builtin; refine wpList_append_own_at _ rfl _ _ 107 rfl w.heap.size 22 i1 (.slice none 0 0) 1 24 Tryz.underlying107 ji jz0 jz1 jz2 rfl (by decide) _ _ _ rfl (hrow1.out.alloc _) ⟨w1.heap.size, 0, none⟩ 1 1 [.slice none 0 0] rfl rfl (news_new w1 22 [.slice none 0 0]) (fun u hu => by rw [List.mem_singleton.1 hu]; rfl) (by unfold maxLen; omega) (by omega) (by simp; omega) ?_; intro v' w2 hown' hgrow' _ hloc')
              have hS2 := Lib.hid ((hS1.out.alloc (.cells #[.slice none 0 0] 22)).push hgrow' hown' hloc')
              have hB2 : Hid (Below w.heap.size w w2) := Lib.hid ((hB1.out.alloc hB1.out.size _).grown hgrow' (by simp; omega) (fun r hr => (World.ownsRow.lt hrow1.out r hr).1))
              clear hgrow' hown' hloc'
              go_meet
              case rel => exact ⟨_, _, _, by rw [hge2.out], rfl, hMP2, Lib.hid (by rw [ho2.out]; exact hS2.out), hB2⟩
          clear hS hB hmQ hmP hMP hhh k0 k1 k2
          obtain ⟨v10, vs2, DP2, rfl, rfl, hMP, hS, hB⟩ := hcut
          have hgl : gi < vs2.length := by rw [hS.out.1]; exact hgi2.out
          obtain ⟨A9, c9, rfl, -, hA9⟩ := own_form hS.out.row
          obtain ⟨gb, rfl⟩ := hA9 (by omega)
          clear hA9
          obtain ⟨u, hu⟩ : ∃ u, u = vs2[gi] := ⟨_, rfl⟩
          obtain ⟨xI, hxI⟩ : ∃ u, u = out2[gi]'(hS.out.1 ▸ hgl) := ⟨_, rfl⟩
          have oc : wc.cell? ⟨gb, gi, none⟩ = some u := by
            rw [World.ownsRow.cellAt hS.out.row gi (by omega), List.getElem?_eq_getElem hgl, hu]
          have ofz : wc.frozen? ⟨gb, gi, none⟩ = false := World.ownsRow.frozenAt hS.out.row gi
          have hin : wc.ownsRow w.heap.size 26 3 u xI.length (xI.flatMap encP) := by rw [hu, hxI]; exact hS.out.inner hgl
          have hxl : xI.length ≤ 200 := by
            have hm : xI ∈ out2 := by rw [hxI]; exact List.getElem_mem _
            rcases hcase.out with h | h
            · rw [h.2.1] at hm
              exact Nat.le_trans (hol.out xI hm) hkz2
            · rw [h.2.1] at hm
              rcases List.mem_append.1 hm with h3 | h3
              · exact Nat.le_trans (hol.out xI h3) hkz2
              · rw [List.mem_singleton.1 h3]; exact Nat.zero_le _
          have hvs2 : vs2.length ≤ 201 := by
            rw [hS.out.1]
            have := holl.out
            rcases hcase.out with h | h
            · rw [h.2.1]; omega
            · rw [h.2.1, List.length_append]; simp; omega
          have hKf : Blk wc gf 26 #[.bool false, .string (natS p.1), .string (natS p.2)] := hS.out.2.get (a := itBlk gf 26 #[.bool false, .string (natS p.1), .string (natS p.2)]) (by simp)
          have k0 : wc.cell? ⟨gf, 0, none⟩ = some (.bool false) := hKf.cell 0
          have k1 : wc.cell? ⟨gf, 1, none⟩ = some (.string (natS p.1)) := hKf.cell 1
          have k2 : wc.cell? ⟨gf, 2, none⟩ = some (.string (natS p.2)) := hKf.cell 2
          replace hu := Lib.hid hu
          replace hxI := Lib.hid hxI
          replace hin := Lib.hid hin
          clear hKf
          go_upto_region 24 with fail
          have hBs := hB.out.size
          have hglz : (gi : Int) < (vs2.length : Int) := by omega
          have hfar : Hid (some gb ≠ u.ownBlock) := Lib.hid (by rw [hu.out]; exact hS.out.far hgl)
          have ocH := Lib.hid oc
          have oc2 : (wc.alloc (.cells #[.bool false, .string (natS p.1), .string (natS p.2)] 26)).cell? ⟨gb, gi, none⟩ = some u := Lib.cell?_alloc_some _ oc
          have ofH := Lib.hid ofz
          go_region_law ((refine step_append_lies _ (by rfl) _ _ _ (by rfl) w.heap.size 26 i0 (.agg #[.bool false, .string ⟨#[]⟩, .string ⟨#[]⟩]) 3 40 Tryz.underlying22 hi hz0 hz1 hz2 rfl (by omega) u xI.length (xI.flatMap encP) (by rfl) (World.ownsRow.alloc (World.ownsRow.drew hin.out) _) ⟨wc.heap.size, 0, none⟩ 1 1 (encP p) (by rfl) rfl (news_new _ 26 (encP p)) (encP_one p) (by omega) (by unfold maxLen; omega) (by omega) (by simp; omega) _ rfl ?_; intro ga ca w1 hown1 hgrow1 hat1 hlt1; obtain ⟨z1, z2⟩ := far_cell hgrow1 ocH.out ofH.out hfar.out; replace hown1 := Lib.hid hown1; replace hgrow1 := Lib.hid hgrow1; replace hat1 := Lib.hid hat1; clear hlt1))
          all_goals
            clear z1 z2 oc oc2 ofz k0 k1 k2 hglz
            have hS3 := Lib.hid (((hS.out.drewN 1).alloc (.cells #[.bool false, .string (natS p.1), .string (natS p.2)] 26)).set (u := .slice (some ⟨ga, 0, none⟩) (xI.length + 1) ca) (xs' := xI ++ [p]) hgl (by rw [← hu.out]; exact hgrow1.out) (by
              rw [List.length_append, List.flatMap_append]
              have e : [p].flatMap encP = encP p := by simp
              rw [e]
              exact hown1.out) (by
              rw [← hu.out]
              rcases hat1.out with h | h
              · exact .inl h.symm
              · exact .inr ⟨ga, rfl, by rw [h]; exact Nat.le_refl _⟩) rfl)
            have hB3 : Hid (Below w.heap.size w (w1.setCell ⟨gb, gi, none⟩ (.slice (some ⟨ga, 0, none⟩) (xI.length + 1) ca))) := Lib.hid (((hB.out.drew.alloc hB.out.drew.size _).grown hgrow1.out (by simp; omega) (fun q hq => (World.ownsRow.lt hin.out q hq).1)).setCell (p := ⟨gb, gi, none⟩) (World.ownsRow.lt hS.out.row gb rfl).1 _)
            have hnext : Hid (grpG (fun k => strK s t dn E[k]!) (fun k => E[k]!) (k + 1) = out2.set gi (xI ++ [p])) := Lib.hid (by
              have hg2 : gi < out2.length := by rw [← hS.out.1]; exact hgl
              have e : out2.set gi (xI ++ [p]) = out2.modify gi (· ++ [p]) := by rw [modify_set out2 gi _ hg2, hxI.out]
              have hp2 := hp.out
              rw [e, hmod.out]
              simp only [hp2])
            have hMP3 : Hid (MapP DP2 (kinds (fun k => strK s t dn E[k]!) (k + 1))) := Lib.hid (by rw [hks2]; exact hMP.out)
            have hwk := hwk.out
            clear hxI hu hS hB hgrow1 hat1 hown1 hin hfar ocH ofH hMP
            go_wp2_with fail
            go_roundg (nE - (k + 1))
            case measure => omega
            case rel =>
              refine ⟨k + 1, kp + 1, DP2, _, vs2.set gi (.slice (some ⟨ga, 0, none⟩) (xI.length + 1) ca), by simp, rfl, by omega, Nat.le_refl _, by omega, hMP3, Lib.hid ?_, hB3⟩
              rw [hnext.out]
              exact hS3.out.drop (X := [itRow w.heap.size 26 3 (.slice (some ⟨gE, 0, none⟩) nE cE) nE (E.flatMap encP), itMap Tryz.prog 26 (plainElem (H := Unit) Tryz.prog 9) gm km D, itMap Tryz.prog 9 (plainElem (H := Unit) Tryz.prog 3) gp (kp + 1) DP2])
    case pos =>
      obtain ⟨g, o, rfl, hcl⟩ := hcel.out (by omega)
      obtain ⟨r, hr⟩ : ∃ r, r = Ls[i]! := ⟨_, rfl⟩
      have hszi := hszr.out i hlt
      have hC := hcl wr hB.out i hlt
      rw [← hr] at hszi hC
      have hof := Lib.hid (cOf.out r)
      have hmi := Lib.hid (hmay.out r)
      obtain ⟨q1, q2, q3⟩ := r
      have hszi := Lib.hid hszi
      have c0 : wr.cell? ⟨g, o + i * 3, none⟩ = some (.bool q1) := hC 0 _ rfl
      have c1 : wr.cell? ⟨g, o + i * 3 + 1, none⟩ = some (.string q2) := hC 1 _ rfl
      have c2 : wr.cell? ⟨g, o + i * 3 + 2, none⟩ = some (.string q3) := hC 2 _ rfl
      have hiz : (i : Int) < (n : Int) := by omega
      have hwi : Hid (IntKind.i64.wrap ((i : Int) + 1) = (i : Int) + 1) := Lib.hid (by rw [IntKind.wrap_i64]; omega)
      replace hr := Lib.hid hr
      clear hC hcl
      go_upto_region 7 with fail
      have kR := Lib.hid (Blk.new wr 26 #[.bool q1, .string q2, .string q3])
      have hkR := Lib.hid hB.out.size
      replace hM := Lib.hid (World.ownsMap.alloc hM.out (.cells #[.bool q1, .string q2, .string q3] 26))
      replace kBy := Lib.hid (Blk.alloc kBy.out (.cells #[.bool q1, .string q2, .string q3] 26))
      replace hB := Lib.hid (hB.out.alloc hB.out.size (.cells #[.bool q1, .string q2, .string q3] 26))
      generalize hW : wr.alloc (.cells #[.bool q1, .string q2, .string q3] 26) = w3 at kR hM kBy hB ⊢
      generalize hgg : wr.heap.size = gR at kR hkR ⊢
      clear hW hgg c0 c1 c2
      have r0 : w3.cell? ⟨gR, 0, none⟩ = some (.bool q1) := kR.out.cell 0
      have r1 : w3.cell? ⟨gR, 1, none⟩ = some (.string q2) := kR.out.cell 1
      have r2 : w3.cell? ⟨gR, 2, none⟩ = some (.string q3) := kR.out.cell 2
      have hkey := Lib.hid (keyQ q1 q2 q3 hszi.out.1 hszi.out.2)
      obtain ⟨hh, hhh⟩ : ∃ b, b = Maps.has D (kq (q1, q2, q3)) := ⟨_, rfl⟩
      have hhas : Hid (hh = true ↔ (q1, q2, q3) ∈ Ls.take i) := Lib.hid (by rw [hhh]; exact hMQ.out.has _ hszi.out)
      replace hhh := Lib.hid hhh
      have htk : Hid (Ls.take (i + 1) = Ls.take i ++ [(q1, q2, q3)]) := Lib.hid (by
        rw [List.take_succ_eq_append_getElem (by rw [← hn.out]; exact hlt), hr.out, getElem!_pos Ls i (by rw [← hn.out]; exact hlt)])
      have b0 : w3.cell? ⟨w.heap.size, 0, none⟩ = some (.bool n1) := kBy.out.cell 0
      have b1' : w3.cell? ⟨w.heap.size, 1, none⟩ = some (.string a1) := kBy.out.cell 1
      have b2 : w3.cell? ⟨w.heap.size, 2, none⟩ = some (.string d1) := kBy.out.cell 2
      go_upto_if 37 with (at_lookup; refine wpList_look_str_ok _ rfl _ _ 175 rfl 26 9 lawRat Tryz.underlying175 Tryz.underlying9 (zeroStr _) gm km D rfl hM.out _ (kq (q1, q2, q3)) rfl hkey.out ?_; intro c0; rw [← hhh.out])
      cases hh
      case true =>
        have hmem := hhas.out.1 rfl
        have hE1 : Hid (∀ j, j < i + 1 → errR b1 d Ls[j]! = 0) := Lib.hid (fun j hj => by
          rcases Nat.lt_or_ge j i with h | h
          · exact hE0.out j h
          · obtain rfl : j = i := by omega
            obtain ⟨j', hj', e⟩ := List.mem_iff_getElem.1 hmem
            have hj2 : j' < j := by rw [List.length_take] at hj'; omega
            rw [List.getElem_take] at e
            have h3 := hE0.out j' hj2
            rw [getElem!_pos Ls j' (by rw [← hn.out]; omega), e, hr.out] at h3
            exact h3)
        have hMQ2 : Hid (MapQ D (Ls.take (i + 1)) (strQ s t dn)) := Lib.hid (by rw [htk.out]; exact hMQ.out.same hmem)
        have hwi := hwi.out
        clear hmem r0 r1 r2 b0 b1' b2
        go_wp2_with fail
        go_roundg (n - (i + 1))
        case measure => omega
        case rel => exact ⟨i + 1, km, D, by simp, by omega, Nat.le_refl _, hMQ2, hM, by omega, hE1, kBy, hB⟩
      case false =>
        go_wp2_with fail
        refine (hof.out w3 hszi.out).mono ?_
        rintro en w4 ⟨v1, v2, rfl, hP, hQ, hb⟩
        have hgR2 := Lib.hid kR.out.lt
        replace hM := Lib.hid (map_below hM.out hb)
        replace kBy := Lib.hid (Blk.below kBy.out hb)
        replace kR := Lib.hid (Blk.below kR.out hb)
        replace hB := Lib.hid (hB.out.trans (hb.mono hB.out.size))
        clear hb hof r0 r1 r2 b0 b1' b2
        obtain ⟨eR, heR⟩ : ∃ e, e = errR b1 d (q1, q2, q3) := ⟨_, rfl⟩
        rw [← heR] at hP hQ ⊢
        replace hP := Lib.hid hP
        replace hQ := Lib.hid hQ
        by_cases he : eR = 0
        case neg =>
          have hEGe : Hid (EG = eR) := Lib.hid (by
            rw [hEG.out, errG_at (by rw [← hn.out]; exact hlt) hE0.out (by rw [← hr.out, ← heR]; exact he), ← hr.out, ← heR])
          have heb : (eR == 0) = false := by simpa using he
          replace heR := Lib.hid heR
          obtain ⟨A1, c1, hv1, -⟩ := Pf.form hP.out.1
          obtain ⟨A2, c2, hv2, -⟩ := Pf.form hQ.out.1
          subst hv1 hv2
          go_wp2_with fail
          go_ret2
          refine .inr ⟨by rw [hEGe.out]; exact he, by rw [hEGe.out]; rfl, ?_⟩
          exact hB.out.alloc hB.out.size _
        case pos =>
          subst he
          have hmi2 := hmi.out heR.symm
          rw [if_pos rfl] at hP hQ
          obtain ⟨-, hml, hs1, hs2⟩ := mayI_spec hmi2
          obtain ⟨P, hPd⟩ : ∃ P, P = (rowK s t dn (be (sl (q1, q2, q3).2.1), be (sl (q1, q2, q3).2.2))).1 := ⟨_, rfl⟩
          obtain ⟨Q, hQd⟩ : ∃ Q, Q = (rowK s t dn (be (sl (q1, q2, q3).2.1), be (sl (q1, q2, q3).2.2))).2 := ⟨_, rfl⟩
          rw [← hPd] at hP hs1 hml
          rw [← hQd] at hQ hs2 hml
          have hstr : Hid (strQ s t dn (q1, q2, q3) = rowS (P, Q)) := Lib.hid (by rw [hPd, hQd]; rfl)
          have hcv1 : Hid (∀ W, Pf W w3.heap.size v1 P → (convert 118 9 v1).run Tryz.prog W = .ok (.string (mkB P)) W) := Lib.hid (fun W h => conv_pf h (fun x hx => (symB_facts (hs1 x hx)).1))
          have hcv2 : Hid (∀ W, Pf W w3.heap.size v2 Q → (convert 118 9 v2).run Tryz.prog W = .ok (.string (mkB Q)) W) := Lib.hid (fun W h => conv_pf h (fun x hx => (symB_facts (hs2 x hx)).1))
          obtain ⟨A1, hv1⟩ := hP.out.2
          obtain ⟨A2, hv2⟩ := hQ.out.2
          subst hv1 hv2
          have hP1 := Lib.hid hP.out.1
          have hQ1 := Lib.hid hQ.out.1
          obtain ⟨lp, hlp⟩ : ∃ l, l = P.length := ⟨_, rfl⟩
          obtain ⟨lq, hlq⟩ : ∃ l, l = Q.length := ⟨_, rfl⟩
          have hl4 : lp ≤ 4096 := by omega
          have hsz1 : (mkB P).size = lp := by rw [mkB_size, hlp]
          have hsz2 : (mkB Q).size = lq := by rw [mkB_size, hlq]
          have hl5 : lq ≤ 4096 := by omega
          obtain ⟨t1, ht1⟩ : ∃ x, x = mkB P ++ ⟨#[124]⟩ := ⟨_, rfl⟩
          obtain ⟨t2, ht2⟩ : ∃ x, x = t1 ++ mkB Q := ⟨_, rfl⟩
          obtain ⟨t3, ht3⟩ : ∃ x, x = t2 ++ ⟨#[124]⟩ := ⟨_, rfl⟩
          obtain ⟨t4, ht4⟩ : ∃ x, x = t3 ++ Utf8.encode (lp : Int) := ⟨_, rfl⟩
          have st1 : t1.size = lp + 1 := by rw [ht1, ByteArray.size_append, hsz1]; rfl
          have st2 : t2.size = lp + 1 + lq := by rw [ht2, ByteArray.size_append, st1, hsz2]
          have st3 : t3.size = lp + 1 + lq + 1 := by rw [ht3, ByteArray.size_append, st2]; rfl
          have hadd1 : ∀ W, (Op.stringOp .add (mkB P) ⟨#[124]⟩).run Tryz.prog W = .ok (.string t1) W := fun W => by
            rw [run_string_add_sum _ _ _ (by rw [hsz1]; show _ + 1 ≤ _; omega), ht1]
          have hadd2 : ∀ W, (Op.stringOp .add t1 (mkB Q)).run Tryz.prog W = .ok (.string t2) W := fun W => by
            rw [run_string_add_sum _ _ _ (by rw [hsz2, st1]; omega), ht2]
          have hadd3 : ∀ W, (Op.stringOp .add t2 ⟨#[124]⟩).run Tryz.prog W = .ok (.string t3) W := fun W => by
            rw [run_string_add_sum _ _ _ (by rw [st2]; show _ + 1 ≤ _; omega), ht3]
          have hadd4 : ∀ W, (Op.stringOp .add t3 (Utf8.encode (lp : Int))).run Tryz.prog W = .ok (.string t4) W := fun W => by
            have := encode_le4 (lp : Int)
            rw [run_string_add_sum _ _ _ (by rw [st3]; omega), ht4]
          have hw32 : IntKind.i32.wrap (lp : Int) = (lp : Int) := by unfold IntKind.wrap; simp [IntKind.bits, IntKind.signed]; omega
          have hfin : Hid (strQ s t dn (q1, q2, q3) = t4) := Lib.hid (by rw [hstr.out, ht4, ht3, ht2, ht1, hlp]; rfl)
          have hsz4 : Hid (t4.size ≤ maxLen) := Lib.hid (by
            have := encode_le4 (lp : Int)
            rw [ht4, ByteArray.size_append, st3]; unfold maxLen; omega)
          rw [← hlp] at hcv1
          rw [← hlq] at hcv2
          replace heR := Lib.hid heR
          replace hPd := Lib.hid hPd
          replace hQd := Lib.hid hQd
          replace hlp := Lib.hid hlp
          replace hlq := Lib.hid hlq
          replace ht1 := Lib.hid ht1
          replace ht2 := Lib.hid ht2
          replace ht3 := Lib.hid ht3
          replace ht4 := Lib.hid ht4
          rw [← hlp.out, ← hlq.out]
          clear hP hQ hmi2 hml hs1 hs2 hstr hsz1 hsz2 st1 st2 st3
          go_upto_region 10 with fail
          have kI := Lib.hid (Blk.new w4 120 #[.slice A1 lp lp, .slice A2 lq lq])
          replace hM := Lib.hid (World.ownsMap.alloc hM.out (.cells #[.slice A1 lp lp, .slice A2 lq lq] 120))
          replace kBy := Lib.hid (Blk.alloc kBy.out (.cells #[.slice A1 lp lp, .slice A2 lq lq] 120))
          replace kR := Lib.hid (Blk.alloc kR.out (.cells #[.slice A1 lp lp, .slice A2 lq lq] 120))
          replace hP1 := Lib.hid (Pf.alloc hP1.out (.cells #[.slice A1 lp lp, .slice A2 lq lq] 120))
          replace hQ1 := Lib.hid (Pf.alloc hQ1.out (.cells #[.slice A1 lp lp, .slice A2 lq lq] 120))
          replace hB := Lib.hid (hB.out.alloc hB.out.size (.cells #[.slice A1 lp lp, .slice A2 lq lq] 120))
          rw [← hlp.out] at hP1
          rw [← hlq.out] at hQ1
          generalize hW : w4.alloc (.cells #[.slice A1 lp lp, .slice A2 lq lq] 120) = w5 at kI hM kBy kR hP1 hQ1 hB ⊢
          generalize hgg : w4.heap.size = gI at kI ⊢
          clear hW hgg
          have e0 : w5.cell? ⟨gI, 0, none⟩ = some (.slice A1 lp lp) := kI.out.cell 0
          have e1 : w5.cell? ⟨gI, 1, none⟩ = some (.slice A2 lq lq) := kI.out.cell 1
          have r0 : w5.cell? ⟨gR, 0, none⟩ = some (.bool q1) := kR.out.cell 0
          have r1 : w5.cell? ⟨gR, 1, none⟩ = some (.string q2) := kR.out.cell 1
          have r2 : w5.cell? ⟨gR, 2, none⟩ = some (.string q3) := kR.out.cell 2
          have hcv1 := hcv1.out w5 hP1.out
          have hcv2 := hcv2.out w5 hQ1.out
          go_upto_region 13 with (at_mapUpdate; refine wpList_mapUpdate_own _ rfl _ _ _ 175 rfl 26 9 lawRat Tryz.underlying175 _ gm km _ rfl hM.out (by unfold maxLen; omega) _ _ _ rfl rfl hkey.out _ [] (plainElem_string Tryz.underlying9 hsz4.out) ?_; intro w6 hmap6 hgrow6)
          have hM6 := Lib.hid hmap6
          have hB6 : Hid (Below w.heap.size w w6) := Lib.hid (hB.out.grown hgrow6 hB.out.size (fun q hq => by injection hq with hq; subst hq; exact hgmB.out))
          have kBy6 := Lib.hid (Blk.grown kBy.out hgrow6 (fun e => Nat.ne_of_lt hgn.out (by injection e)))
          have hMQ2 : Hid (MapQ (D.put (kq (q1, q2, q3)) (.lit (.string t4.data.toList))) (Ls.take (i + 1)) (strQ s t dn)) := Lib.hid (by
            have h := hMQ.out.put hszi.out
            rw [hfin.out] at h
            rw [htk.out]; exact h)
          have hE1 : Hid (∀ j, j < i + 1 → errR b1 d Ls[j]! = 0) := Lib.hid (fun j hj => by
            rcases Nat.lt_or_ge j i with h | h
            · exact hE0.out j h
            · obtain rfl : j = i := by omega
              rw [← hr.out]; exact heR.out.symm)
          have hwi := hwi.out
          clear hmap6 hgrow6 hM hB kBy kR kI e0 e1 r0 r1 r2 hcv1 hcv2 hadd1 hadd2 hadd3 hadd4
          go_wp2_with fail
          go_roundg (n - (i + 1))
          case measure => omega
          case rel => exact ⟨i + 1, km + 1, _, by simp, by omega, Nat.le_refl _, hMQ2, hM6, by omega, hE1, kBy6, hB6⟩
end Go.Proofs.YtoaggmegmgdgbaaGreat
