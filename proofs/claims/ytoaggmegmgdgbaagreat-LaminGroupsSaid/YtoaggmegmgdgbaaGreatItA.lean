import Derived.Test.YtoaggmegmgdgbaaGreatMem
import Derived.Laws.AppendOwnNone
import Derived.OwnWalk
import Derived.Test.YtoaggmegmgdgbaaGreatRowP
import Derived.Test.YtoaggmegmgdgbaaGreatNatC
import Derived.Test.YtoaggmegmgdgbaaGreatShelf
import Derived.Test.YtoaggmegmgdgbaaGreatAngN
namespace Go.Proofs.YtoaggmegmgdgbaaGreat
open Go.RowKit
theorem own_rd {k : IntKind} {T : TypeId} {w : World} {base : Nat} {v : Value} {l : List Nat} (h : w.ownsRow base T 1 v l.length (ivs k l)) : Rd k T w v l := by
  rcases h.2 with ⟨rfl, h0⟩ | ⟨g, cap, cur, rfl, -, hg, hc, hm, -, ht⟩
  · obtain rfl : l = [] := List.length_eq_zero_iff.1 h0
    exact Rd.nil_
  · refine ⟨some ⟨g, 0, none⟩, cap, rfl, hc, hm, fun _ => ⟨g, 0, fun j => l[j]?, rfl, ⟨cur, (0, 0), hg, fun j x hj => ?_⟩, fun j x hj => by rw [Nat.zero_add]; exact hj⟩⟩
    replace hj : l[j]? = some x := hj
    have h1 := ivs_get (k := k) hj
    rw [← ht, Nat.mul_one] at h1
    have hjl : j < l.length := (List.getElem?_eq_some_iff.1 hj).1
    rw [List.getElem?_take_of_lt hjl] at h1
    simpa using h1
theorem rd_drop {k : IntKind} {T : TypeId} {w : World} {g off c p n m : Nat} {l : List Nat} (h : Rd k T w (.slice (some ⟨g, off, none⟩) n c) l) (hp : p ≤ l.length) (hm : m = l.length - p) : Rd k T w (.slice (some ⟨g, off + p, none⟩) m (c - p)) (l.drop p) := by
  obtain ⟨A', c', he, h1, h2, h3⟩ := h
  injection he with e1 e2 e3
  subst e1 e3
  have hl : (l.drop p).length = m := by rw [List.length_drop]; omega
  refine ⟨_, c - p, by rw [hl], by omega, by omega, fun hn => ?_⟩
  obtain ⟨g', off', L, ea, hr, hL⟩ := h3 (fun e => by rw [e] at hn; simp at hn)
  injection ea with ea
  injection ea with eg eo
  subst eg eo
  refine ⟨g, off + p, L, rfl, hr, fun j x hj => ?_⟩
  rw [List.getElem?_drop] at hj
  have := hL _ x hj
  rwa [← Nat.add_assoc] at this
theorem own_len {k : IntKind} {w : World} {base : Nat} {T : TypeId} {v : Value} {n : Nat} {l : List Nat} (h : w.ownsRow base T 1 v n (ivs k l)) : n = l.length := by
  have := h.1
  rw [ivs_len] at this
  omega
theorem own_rdn {k : IntKind} {w : World} {base : Nat} {T : TypeId} {v : Value} {n : Nat} {l : List Nat} (h : w.ownsRow base T 1 v n (ivs k l)) : Rd k T w v l := by
  have e := own_len h
  subst e
  exact own_rd h
theorem rd_drop0 {k : IntKind} {T : TypeId} {w : World} {g c p n m : Nat} {l : List Nat} (h : Rd k T w (.slice (some ⟨g, 0, none⟩) n c) l) (hp : p ≤ l.length) (hm : m = l.length - p) : Rd k T w (.slice (some ⟨g, p, none⟩) m (c - p)) (l.drop p) := by
  have h1 := rd_drop h hp hm
  rwa [Nat.zero_add] at h1
theorem app_rd {P : Program} {w : World} {k : IntKind} {base : Nat} {t ty e T : TypeId} {i : TypeInfo} {z : Value} {bytes : Nat} (ht : P.underlying t = some (.slice e)) (hi : P.info? e = some i) (hz : i.zero = some z)
    (hsize : i.size = 1) (hby : i.bytes = bytes) (hzs : z.cells.size = 1) {v : Value} {n : Nat} {xs : List Value} (hown : w.ownsRow base e 1 v n xs)
    {A : Option Addr} {m c : Nat} {l : List Nat} (hR : Rd k T w (.slice A m c) l) (h63 : n + m ≤ maxLen) (hbytes : (n + m) * bytes ≤ 140737488355328) (hbase : base ≤ w.heap.size) :
    ∃ v' w', (Builtin.append_ #[t, t] ty #[v, .slice A m c]).run P w = .ok v' w' ∧ w'.ownsRow base e 1 v' (n + m) (xs ++ ivs k l) ∧ w.grownBy w' v.ownBlock := by
  obtain ⟨A', c', e1, h1, h2, h3⟩ := hR
  injection e1 with e1 e2 e3
  subst e1 e2 e3
  by_cases hn : l = []
  · subst hn
    cases A with
    | none =>
      refine ⟨v, w, ?_, ?_, gb_refl _ _⟩
      · rcases hown.2 with ⟨rfl, rfl⟩ | ⟨g, cap, cur, rfl, _, _, hnc, _⟩
        · simp [Builtin.append_, run_underlying ht, sizeOf, typeInfo, hi, Builtin.lenOf, Builtin.firstCells]
        · simp [Builtin.append_, run_underlying ht, sizeOf, typeInfo, hi, Builtin.lenOf, Builtin.firstCells, hnc, storeCells]
      · simpa [ivs] using hown
    | some a =>
      obtain ⟨v', w', hr, ho, hg, -⟩ := run_append_own (P := P) w base t ty e i z 1 bytes ht hi hz hsize hby hzs (by decide) v n xs hown a 0 c [] rfl (fun j u hj => by simp at hj) (fun u hu => by cases hu) h63 hbytes hbase
      exact ⟨v', w', hr, by simpa [ivs] using ho, hg⟩
  · obtain ⟨g, off, L, rfl, hrow, hL⟩ := h3 hn
    obtain ⟨v', w', hr, ho, hg, -⟩ := run_append_own (P := P) w base t ty e i z 1 bytes ht hi hz hsize hby hzs (by decide) v n xs hown ⟨g, off, none⟩ l.length c (ivs k l) (by simp [ivs_len])
      (fun j u hj => by
        have hjl : j < l.length := by
          rcases Nat.lt_or_ge j l.length with h | h
          · exact h
          · rw [List.getElem?_eq_none (by rw [ivs_len]; exact h)] at hj; cases hj
        have hx : l[j]? = some l[j] := List.getElem?_eq_getElem hjl
        rw [ivs_get hx] at hj
        cases hj
        have := hrow.cell (hL j _ hx)
        unfold Addr.add
        split
        · rename_i h0; subst h0; simpa using this
        · exact this)
      (fun u hu => by
        obtain ⟨x, _, rfl⟩ := List.mem_map.1 hu
        rfl) h63 hbytes hbase
    exact ⟨v', w', hr, ho, hg⟩
theorem wpList_append_rd {P : Program} {w : World} {ops : Array Oper} {rest : List Oper} {o : Oper} {a : Act} {Q : Exit → Act → World → Prop} (hgd : o.guard = none) (s x : Operand) (t : TypeId)
    (ho : o.op = .call { callee := .builtin .append, args := #[s, x], argTypes := #[t, t] })
    (k : IntKind) (base : Nat) (e T : TypeId) (i : TypeInfo) (z : Value) (bytes : Nat) (ht : P.underlying t = some (.slice e)) (hi : P.info? e = some i) (hz : i.zero = some z)
    (hsize : i.size = 1) (hby : i.bytes = bytes) (hzs : z.cells.size = 1) (v : Value) (n : Nat) (xs : List Value) (hs : a.eval s = v) (hown : w.ownsRow base e 1 v n xs)
    (A : Option Addr) (m c : Nat) (l : List Nat) (hx : a.eval x = .slice A m c) (hR : Rd k T w (.slice A m c) l) (h63 : n + m ≤ maxLen) (hbytes : (n + m) * bytes ≤ 140737488355328) (hbase : base ≤ w.heap.size)
    (h : ∀ v' w', w'.ownsRow base e 1 v' (n + m) (xs ++ ivs k l) → w.grownBy w' v.ownBlock → wpList P ops Q rest (a.put o.dst v') w') : wpList P ops Q (o :: rest) a w := by
  refine wpList_plain hgd fun K hK => ?_
  obtain ⟨v', w', hrun, ho', hg'⟩ := app_rd (P := P) (ty := o.type) ht hi hz hsize hby hzs hown hR h63 hbytes hbase
  unfold Oper.wp
  simp [execOp, ho, resolve, invoke, builtin, hs, hx, hrun, Result.andThen]
  exact hK _ _ (h v' w' ho' hg')
end Go.Proofs.YtoaggmegmgdgbaaGreat
namespace Go.Proofs.YtoaggmegmgdgbaaGreat
open Go.RowKit
def Pf (w : World) (B : Nat) (v : Value) (l : List Nat) : Prop :=
  ∃ (A : Option Addr) (c : Nat), v = .slice A l.length c ∧ l.length ≤ c ∧ c ≤ maxLen ∧
    (l ≠ [] → ∃ (g : Nat) (cur : Array Value), A = some ⟨g, 0, none⟩ ∧ B ≤ g ∧ w.heap[g]? = some (.cells cur 5 (0, 0)) ∧ ∀ (j x : Nat), l[j]? = some x → cur[j]? = some (Value.int .u8 (x : Int)))
section
variable {w w' : World} {B : Nat} {v : Value} {l : List Nat}
theorem heap_lt {W : World} {g : Nat} {o : Obj} (h : W.heap[g]? = some o) : g < W.heap.size := by
  rcases Nat.lt_or_ge g W.heap.size with hlt | hge
  · exact hlt
  · rw [Array.getElem?_eq_none hge] at h; cases h
theorem Pf.keep (h : Pf w B v l) (hk : ∀ g, B ≤ g → g < w.heap.size → w'.heap[g]? = w.heap[g]?) : Pf w' B v l := by
  obtain ⟨A, c, rfl, h1, h2, h3⟩ := h
  refine ⟨A, c, rfl, h1, h2, fun hn => ?_⟩
  obtain ⟨g, cur, e, hB, hh, hc⟩ := h3 hn
  exact ⟨g, cur, e, hB, (hk g hB (heap_lt hh)).trans hh, hc⟩
theorem Pf.below (h : Pf w B v l) (hb : Below w.heap.size w w') : Pf w' B v l := h.keep fun g _ hg => hb.block g hg
theorem Pf.alloc (h : Pf w B v l) (o : Obj) : Pf (w.alloc o) B v l := h.keep fun g _ hg => Below.heap_alloc w o g hg
theorem Pf.le (h : Pf w B v l) {B' : Nat} (hB : B' ≤ B) : Pf w B' v l := by
  obtain ⟨A, c, rfl, h1, h2, h3⟩ := h
  refine ⟨A, c, rfl, h1, h2, fun hn => ?_⟩
  obtain ⟨g, cur, e, hB2, hh, hc⟩ := h3 hn
  exact ⟨g, cur, e, Nat.le_trans hB hB2, hh, hc⟩
theorem Pf.of_own {n : Nat} (h : w.ownsRow B 5 1 v n (ivs .u8 l)) : Pf w B v l := by
  have hn := own_len h
  rcases h.2 with ⟨rfl, h0⟩ | ⟨g, cap, cur, rfl, hB, hh, h1, h2, h3, h4⟩
  · have : l = [] := List.length_eq_zero_iff.1 (by omega)
    subst this
    exact ⟨none, 0, rfl, Nat.le_refl _, Nat.zero_le _, fun h => absurd rfl h⟩
  · subst hn
    refine ⟨_, cap, rfl, h1, h2, fun _ => ⟨g, cur, rfl, hB, hh, fun j x hj => ?_⟩⟩
    have hjl := lt_of_getElem? hj
    have e : (ivs .u8 l)[j]? = some (.int .u8 (x : Int)) := ivs_get hj
    rw [← h4, List.getElem?_take_of_lt (by omega)] at e
    simpa using e
theorem Pf.nil_ (w : World) (B : Nat) (A : Option Addr) (c : Nat) (hc : c ≤ maxLen) : Pf w B (.slice A 0 c) [] := ⟨A, c, rfl, Nat.zero_le _, hc, fun h => absurd rfl h⟩
theorem Pf.take {A : Option Addr} {m c k : Nat} (h : Pf w B (.slice A m c) l) (hk : k ≤ l.length) {c' : Nat} (hc1 : k ≤ c') (hc2 : c' ≤ maxLen) : Pf w B (.slice A k c') (l.take k) := by
  obtain ⟨A', c0, e, h1, h2, h3⟩ := h
  injection e with e1 e2 e3
  subst e1 e2 e3
  have hl : (l.take k).length = k := by rw [List.length_take]; omega
  refine ⟨A, c', by rw [hl], by omega, hc2, fun hn => ?_⟩
  obtain ⟨g, cur, e, hB, hh, hc⟩ := h3 (fun e => by subst e; simp at hn)
  refine ⟨g, cur, e, hB, hh, fun j x hj => hc j x ?_⟩
  rw [List.getElem?_take] at hj
  split at hj
  · exact hj
  · cases hj
theorem Pf.form (h : Pf w B v l) : ∃ A c, v = .slice A l.length c ∧ l.length ≤ c ∧ c ≤ maxLen := by
  obtain ⟨A, c, e, h1, h2, -⟩ := h
  exact ⟨A, c, e, h1, h2⟩
theorem Pf.open_ {A : Option Addr} {m c : Nat} (h : Pf w B (.slice A m c) l) (hn : l ≠ []) : ∃ (g : Nat) (cur : Array Value), A = some ⟨g, 0, none⟩ ∧ B ≤ g ∧ w.heap[g]? = some (.cells cur 5 (0, 0)) ∧ ∀ (j x : Nat), l[j]? = some x → w.cell? ⟨g, j, none⟩ = some (Value.int .u8 (x : Int)) := by
  obtain ⟨A', c0, e, h1, h2, h3⟩ := h
  injection e with e1 e2 e3
  subst e1
  obtain ⟨g, cur, e, hB, hh, hc⟩ := h3 hn
  exact ⟨g, cur, e, hB, hh, fun j x hj => by rw [cell_of_row w g j cur _ _ hh]; exact hc j x hj⟩
end
theorem Rd.take {k : IntKind} {T : TypeId} {w : World} {A : Option Addr} {m c n : Nat} {l : List Nat} (h : Rd k T w (.slice A m c) l) (hn : n ≤ l.length) {c' : Nat} (hc1 : n ≤ c') (hc2 : c' ≤ maxLen) : Rd k T w (.slice A n c') (l.take n) := by
  obtain ⟨A', c0, e, h1, h2, h3⟩ := h
  injection e with e1 e2 e3
  subst e1 e2 e3
  have hl : (l.take n).length = n := by rw [List.length_take]; omega
  refine ⟨A, c', by rw [hl], by omega, hc2, fun hne => ?_⟩
  obtain ⟨g, off, L, e, hr, hL⟩ := h3 (fun e => by subst e; simp at hne)
  refine ⟨g, off, L, e, hr, fun j x hj => hL j x ?_⟩
  rw [List.getElem?_take] at hj
  split at hj
  · exact hj
  · cases hj
set_option maxRecDepth 100000 in
set_option maxHeartbeats 400000 in
theorem clone_any {T : TypeId} (A : Option Addr) (n c : Nat) (l : List Nat) (w : World) (h : Rd .u8 T w (.slice A n c) l) (hl : l.length ≤ 140737488355328) :
    Calls Tryz.prog 148 #[.slice A n c] w fun e w' => ∃ v, e = .returned v ∧ w'.ownsRow w.heap.size 5 1 v n (ivs .u8 l) ∧ Below w.heap.size w w' := by
  obtain ⟨i0, hi, hz0, hz1, hz2⟩ := info_parts info_u8
  obtain rfl : n = l.length := by obtain ⟨A', c', e, -⟩ := h; injection e
  cases A with
  | none =>
    have h0 : l = [] := by
      by_cases hn : l = []
      · exact hn
      · obtain ⟨g, off, c', L, e, -⟩ := h.open_ hn
        cases e
    subst h0
    refine (Tryz.slices_Clone_nil _ c w).mono ?_
    rintro e w' ⟨rfl, rfl⟩
    exact ⟨_, rfl, World.ownsRow_nil _ _ _ _, Below.refl _ _⟩
  | some a =>
    obtain ⟨L, hL⟩ : ∃ L, L = l.length := ⟨_, rfl⟩
    rw [← hL] at h hl ⊢
    have q : ∀ (w : World) (a : Option Addr) (n c n' c' : Nat), (binOp .eql 118 (.slice a n c) (.slice none n' c')).run Tryz.prog w = .ok (.bool a.isNone) w := fun w a n c n' c' => Lib.run_eql_slice_nil w _ _ a n c n' c' Tryz.underlying118
    replace h := Lib.hid h
    replace hL := Lib.hid hL
    go_enter Tryz.func148, Tryz.ntmps148
    go_wp2_with (at_builtin; refine wpList_append_rd rfl _ _ 118 rfl .u8 w.heap.size 5 T i0 (.int .u8 0) 1 Tryz.underlying118 hi hz0 hz1 hz2 rfl _ 0 [] rfl (World.ownsRow_made w #[] 0 (Nat.le_refl _) (Nat.zero_le _) rfl) _ _ _ l rfl (h.out.alloc _) ?d1 ?d2 (by simp) ?_)
    case d1 => unfold maxLen; omega
    case d2 => omega
    intro v' w1 hown hgrow
    have hB : Below w.heap.size w w1 := ((Below.refl _ w).alloc (Nat.le_refl _) _).grown hgrow (by simp) (by intro k hk; simp [Value.ownBlock] at hk; omega)
    replace hown : Hid (w1.ownsRow w.heap.size 5 1 v' L (ivs .u8 l)) := Lib.hid (by simpa using hown)
    replace hB := Lib.hid hB
    clear hgrow
    go_wp2_with fail
    go_ret
    exact ⟨v', rfl, hown.out, hB.out⟩
open Go.RowKit Go.Sort
theorem okA_parts {neg : Bool} {num den : ByteArray} (h : okA neg num den = true) : smallB num = true ∧ smallB den = true ∧ be (sl num) < be (sl den) ∧ be (sl den) ≤ 2147483647 := by
  simp only [okA, Bool.and_eq_true, decide_eq_true_eq] at h
  exact ⟨h.1.1.1.2, h.1.1.2, h.1.2, h.2⟩
set_option maxRecDepth 100000 in
set_option maxHeartbeats 400000 in
theorem ivalue_any (n1 : Bool) (a1 d1 : ByteArray) (x y : Nat) (w : World) (z1 : a1.size ≤ 9223372036854775807) (z2 : d1.size ≤ 9223372036854775807) (hok : okA n1 a1 d1 = true) (hx : Hid (x = be (sl a1))) (hy : Hid (y = be (sl d1))) :
    Calls Tryz.prog 146 #[.agg #[.bool n1, .string a1, .string d1]] w (RetVal (.tuple #[.int .i64 (x : Int), .int .i64 (y : Int)]) w) := by
  obtain ⟨s1, s2, s3, s4⟩ := okA_parts hok
  have k1 : x < y := by rw [hx.out, hy.out]; exact s3
  have k2 : y ≤ 2147483647 := by rw [hy.out]; exact s4
  have x1 : IntKind.i64.wrap (x : Int) = (x : Int) := by rw [IntKind.wrap_i64]; omega
  have x2 : IntKind.i64.wrap (y : Int) = (y : Int) := by rw [IntKind.wrap_i64]; omega
  have hBW : Below w.heap.size w (w.alloc (.cells #[.bool n1, .string a1, .string d1] 26)) := (Below.refl _ w).alloc (Nat.le_refl _) _
  have hK := Blk.new w 26 #[.bool n1, .string a1, .string d1]
  replace hBW := Lib.hid hBW
  replace hK := Lib.hid hK
  clear hok s3 s4
  go_enter Tryz.func146, Tryz.ntmps146
  go_wp2_with fail
  refine (natSmall_yes a1 x _ z1 s1 hx).mono ?_
  rintro en v1 ⟨rfl, hb⟩
  have hB1 := hBW.out.trans (hb.mono (by simp))
  have hK1 := Blk.below hK.out hb
  have c2 : v1.cell? ⟨w.heap.size, 2, none⟩ = some (.string d1) := hK1.cell 2
  replace hB1 := Lib.hid hB1
  clear hb hBW hK hK1
  go_wp2_with fail
  refine (natSmall_yes d1 y _ z2 s2 hy).mono ?_
  rintro en v2 ⟨rfl, hb⟩
  have hB2 := hB1.out.trans (hb.mono (hB1.out.size))
  replace hB2 := Lib.hid hB2
  clear hb hB1
  go_wp2_with fail
  go_ret2
  exact ⟨rfl, hB2.out⟩
def mayE (b : Bool) (a : Bool) (d : Int) : Int := if !b || !a then 210 else if roundB d then 0 else 2
set_option maxRecDepth 100000 in
set_option maxHeartbeats 400000 in
theorem imay_any (n1 : Bool) (a1 d1 : ByteArray) (n2 : Bool) (a2 d2 : ByteArray) (d : Int) (w : World)
    (z1 : a1.size ≤ 9223372036854775807) (z2 : d1.size ≤ 9223372036854775807) (z3 : a2.size ≤ 9223372036854775807) (z4 : d2.size ≤ 9223372036854775807) :
    Calls Tryz.prog 99 #[.agg #[.bool n1, .string a1, .string d1], .agg #[.bool n2, .string a2, .string d2], .int .i64 d] w (RetVal (.int .i64 (mayE (okA n1 a1 d1) (okA n2 a2 d2) d)) w) := by
  obtain ⟨r, hr⟩ : ∃ r : Value, r = .int .i64 (mayE (okA n1 a1 d1) (okA n2 a2 d2) d) := ⟨_, rfl⟩
  rw [← hr]
  have hBW : Below w.heap.size w ((w.alloc (.cells #[.bool n1, .string a1, .string d1] 26)).alloc (.cells #[.bool n2, .string a2, .string d2] 26)) := ((Below.refl _ w).alloc (Nat.le_refl _) _).alloc (by simp) _
  have hK2 := Blk.new (w.alloc (.cells #[.bool n1, .string a1, .string d1] 26)) 26 #[.bool n2, .string a2, .string d2]
  rw [show (w.alloc (.cells #[.bool n1, .string a1, .string d1] 26)).heap.size = w.heap.size + 1 by simp] at hK2
  replace hr := Lib.hid hr
  replace hBW := Lib.hid hBW
  replace hK2 := Lib.hid hK2
  go_enter Tryz.func99, Tryz.ntmps99
  go_wp2_with fail
  refine (check_any n1 a1 d1 _ z1 z2).mono ?_
  rintro en v1 ⟨rfl, hb⟩
  have hB1 := Lib.hid (hBW.out.trans (hb.mono (by simp; omega)))
  have hK1 := Blk.below hK2.out hb
  have c0 : v1.cell? ⟨w.heap.size + 1, 0, none⟩ = some (.bool n2) := hK1.cell 0
  have c1 : v1.cell? ⟨w.heap.size + 1, 1, none⟩ = some (.string a2) := hK1.cell 1
  have c2 : v1.cell? ⟨w.heap.size + 1, 2, none⟩ = some (.string d2) := hK1.cell 2
  clear hb hK2 hBW hK1
  cases h1 : okA n1 a1 d1
  · have hv : Hid (r = .int .i64 210) := Lib.hid (by rw [hr.out, h1]; rfl)
    go_wp2_with fail
    go_ret
    exact ⟨by rw [hv.out]; rfl, hB1.out⟩
  · go_wp2_with fail
    refine (check_any n2 a2 d2 _ z3 z4).mono ?_
    rintro en v2 ⟨rfl, hb⟩
    have hB2 := Lib.hid (hB1.out.trans (hb.mono hB1.out.size))
    clear hb hB1 c0 c1 c2
    cases h2 : okA n2 a2 d2
    · have hv : Hid (r = .int .i64 210) := Lib.hid (by rw [hr.out, h1, h2]; rfl)
      go_wp2_with fail
      go_ret
      exact ⟨by rw [hv.out]; rfl, hB2.out⟩
    · by_cases q1 : d < 2
      · have hv : Hid (r = .int .i64 2) := Lib.hid (by rw [hr.out, h1, h2]; simp [mayE, roundB]; omega)
        go_wp2_with fail
        go_ret
        exact ⟨by rw [hv.out]; rfl, hB2.out⟩
      · by_cases q2 : 64 < d
        · have hv : Hid (r = .int .i64 2) := Lib.hid (by rw [hr.out, h1, h2]; simp [mayE, roundB]; omega)
          go_wp2_with fail
          go_ret
          exact ⟨by rw [hv.out]; rfl, hB2.out⟩
        · have hv : Hid (r = .int .i64 0) := Lib.hid (by rw [hr.out, h1, h2]; simp [mayE, roundB]; omega)
          go_wp2_with fail
          go_ret
          exact ⟨by rw [hv.out]; rfl, hB2.out⟩
theorem wrap64_nat {x : Nat} (h : x < 4611686018427387904) : wrap64 (x : Int) = (x : Int) := by unfold wrap64; omega
theorem cmpN_eq_of {x y x' y' : Nat} (h1 : x < y ↔ x' < y') (h2 : y < x ↔ y' < x') : cmpN x y = cmpN x' y' := by
  unfold cmpN
  simp only [h1, h2]
theorem cmpN_lt {x y : Nat} (h : x < y) : cmpN x y = -1 := by simp [cmpN, h]
theorem cmpN_gt {x y : Nat} (h : y < x) : cmpN x y = 1 := by have : ¬ x < y := by omega
                                                             simp [cmpN, h, this]
theorem cmpN_eq {x y : Nat} (h : x = y) : cmpN x y = 0 := by subst h; simp [cmpN]
set_option maxRecDepth 100000 in
set_option maxHeartbeats 1000000 in
theorem icompare_any (a0 b0 c0 d0 : Nat) (w : World) (ha : a0 < 4611686018427387904) (hb : b0 < 4611686018427387904) (hc : c0 < 4611686018427387904) (hd : d0 < 4611686018427387904) (hb0 : 0 < b0) (hd0 : 0 < d0) :
    Calls Tryz.prog 147 #[.int .i64 (a0 : Int), .int .i64 (b0 : Int), .int .i64 (c0 : Int), .int .i64 (d0 : Int)] w (RetVal (.int .i64 (cmpN (a0 * d0) (c0 * b0))) w) := by
  obtain ⟨r, hr⟩ : ∃ r, r = cmpN (a0 * d0) (c0 * b0) := ⟨_, rfl⟩
  rw [← hr]
  replace hr := Lib.hid hr
  replace ha := Lib.hid ha
  replace hb := Lib.hid hb
  replace hc := Lib.hid hc
  replace hd := Lib.hid hd
  go_enter Tryz.func147, Tryz.ntmps147
  go_wp2_with fail
  go_loopw [0, 1, 2, 3] (fun av bv cv dv wr => ∃ a b c d : Nat, av = .int .i64 (a : Int) ∧ bv = .int .i64 (b : Int) ∧ cv = .int .i64 (c : Int) ∧ dv = .int .i64 (d : Int) ∧ a < 4611686018427387904 ∧ b < 4611686018427387904 ∧ c < 4611686018427387904 ∧ d < 4611686018427387904 ∧ 0 < b ∧ 0 < d ∧ r = cmpN (a * d) (c * b) ∧ Dr w wr) (fun _ bv _ dv _ => (intOf bv).toNat + (intOf dv).toNat)
  case atStart => exact ⟨a0, b0, c0, d0, rfl, rfl, rfl, rfl, ha.out, hb.out, hc.out, hd.out, hb0, hd0, hr.out, Dr.refl _⟩
  case round =>
    obtain ⟨a, b, c, d, rfl, rfl, rfl, rfl, ha, hb, hc, hd, hb0, hd0, hr, nd, rfl⟩ := hrel
    obtain ⟨x, hx⟩ : ∃ x, x = a / b := ⟨_, rfl⟩
    obtain ⟨y, hy⟩ : ∃ y, y = c / d := ⟨_, rfl⟩
    obtain ⟨m, hm⟩ : ∃ m, m = x * b := ⟨_, rfl⟩
    obtain ⟨n, hn⟩ : ∃ n, n = y * d := ⟨_, rfl⟩
    obtain ⟨p, hp⟩ : ∃ p, p = a % b := ⟨_, rfl⟩
    obtain ⟨q, hq⟩ : ∃ q, q = c % d := ⟨_, rfl⟩
    have hxi : (a : Int).tdiv (b : Int) = (x : Int) := by rw [hx]; exact tdiv_nat a b
    have hyi : (c : Int).tdiv (d : Int) = (y : Int) := by rw [hy]; exact tdiv_nat c d
    have hxa : x ≤ a := by rw [hx]; exact Nat.div_le_self a b
    have hyc : y ≤ c := by rw [hy]; exact Nat.div_le_self c d
    have hma : m ≤ a := by rw [hm, hx]; exact Nat.div_mul_le_self a b
    have hnc : n ≤ c := by rw [hn, hy]; exact Nat.div_mul_le_self c d
    have hpa : p = a - m := by rw [hp, hm, hx, Nat.mod_eq_sub_div_mul]
    have hqc : q = c - n := by rw [hq, hn, hy, Nat.mod_eq_sub_div_mul]
    have hpb : p < b := by rw [hp]; exact Nat.mod_lt _ hb0
    have hqd : q < d := by rw [hq]; exact Nat.mod_lt _ hd0
    have hmi : (x : Int) * (b : Int) = (m : Int) := by rw [hm]; push_cast; rfl
    have hni : (y : Int) * (d : Int) = (n : Int) := by rw [hn]; push_cast; rfl
    have hpi : (a : Int) - (m : Int) = (p : Int) := by omega
    have hqi : (c : Int) - (n : Int) = (q : Int) := by omega
    have b0 : ¬ (b : Int) = 0 := by omega
    have d0 : ¬ (d : Int) = 0 := by omega
    have hxw : wrap64 (x : Int) = (x : Int) := wrap64_nat (Nat.lt_of_le_of_lt hxa ha)
    have hyw : wrap64 (y : Int) = (y : Int) := wrap64_nat (Nat.lt_of_le_of_lt hyc hc)
    have hmw : wrap64 (m : Int) = (m : Int) := wrap64_nat (Nat.lt_of_le_of_lt hma ha)
    have hnw : wrap64 (n : Int) = (n : Int) := wrap64_nat (Nat.lt_of_le_of_lt hnc hc)
    have hpw : wrap64 (p : Int) = (p : Int) := wrap64_nat (Nat.lt_trans hpb hb)
    have hqw : wrap64 (q : Int) = (q : Int) := wrap64_nat (Nat.lt_trans hqd hd)
    have hlt : x < y → r = -1 := fun h => by rw [hr]; exact cmpN_lt (quo_lt hb0 hd0 (by rw [← hx, ← hy]; exact h))
    have hgt : y < x → r = 1 := fun h => by rw [hr]; exact cmpN_gt (quo_lt hd0 hb0 (by rw [← hx, ← hy]; exact h))
    have heq : x = y → r = cmpN (p * d) (q * b) := fun h => by
      obtain ⟨k1, k2⟩ := quo_rest (a := a) (b := b) (c := c) (d := d) (by rw [← hx, ← hy]; exact h)
      rw [hr, hp, hq]
      exact cmpN_eq_of k1 k2
    replace ha := Lib.hid ha
    replace hb := Lib.hid hb
    replace hc := Lib.hid hc
    replace hd := Lib.hid hd
    replace hlt := Lib.hid hlt
    replace hgt := Lib.hid hgt
    replace heq := Lib.hid heq
    replace hpb := Lib.hid hpb
    replace hqd := Lib.hid hqd
    clear hr hx hy hm hn hp hq hxa hyc hma hnc hpa hqc
    have hR2 := Lib.hid (⟨hmi, hni, hpi, hqi⟩ : _ ∧ _ ∧ _ ∧ _)
    have hR3 := Lib.hid (⟨hmw, hnw, hpw, hqw⟩ : _ ∧ _ ∧ _ ∧ _)
    clear hmi hni hpi hqi hmw hnw hpw hqw
    replace hxw := Lib.hid hxw
    replace hyw := Lib.hid hyw
    go_wp2_with fail
    go_quiet (fail)
    simp only [hxw.out, hyw.out]
    by_cases h1 : x < y
    · have hv := Lib.hid (hlt.out h1)
      have h1I : (x : Int) < (y : Int) := Int.ofNat_lt.2 h1
      go_wp2_with fail
      go_ret
      exact ⟨by rw [hv.out]; rfl, below_drewN (Below.refl _ _) _⟩
    · by_cases h2 : y < x
      · have hv := Lib.hid (hgt.out h2)
        have h1I : ¬ (x : Int) < (y : Int) := by omega
        have h2I : (y : Int) < (x : Int) := Int.ofNat_lt.2 h2
        go_wp2_with fail
        go_ret
        exact ⟨by rw [hv.out]; rfl, below_drewN (Below.refl _ _) _⟩
      · have hv := Lib.hid (heq.out (by omega))
        have h1I : ¬ (x : Int) < (y : Int) := by omega
        have h2I : ¬ (y : Int) < (x : Int) := by omega
        clear hlt hgt heq
        have hP : wrap64 ((a : Int) - wrap64 ((x : Int) * (b : Int))) = (p : Int) := by rw [hR2.out.1, hR3.out.1, hR2.out.2.2.1, hR3.out.2.2.1]
        have hQ : wrap64 ((c : Int) - wrap64 ((y : Int) * (d : Int))) = (q : Int) := by rw [hR2.out.2.1, hR3.out.2.1, hR2.out.2.2.2, hR3.out.2.2.2]
        clear hR2 hR3 hxw hyw
        by_cases hp0 : p = 0
        · subst hp0
          by_cases hq0 : q = 0
          · subst hq0
            replace hv : Hid (r = 0) := Lib.hid (by rw [hv.out]; exact cmpN_eq (by simp))
            go_wp2_with fail
            go_ret
            exact ⟨by rw [hv.out]; rfl, below_drewN (Below.refl _ _) _⟩
          · have hq0I : ¬ (q : Int) = 0 := by omega
            replace hv : Hid (r = -1) := Lib.hid (by rw [hv.out]; exact cmpN_lt (by rw [Nat.zero_mul]; exact Nat.mul_pos (by omega) hb0))
            go_wp2_with fail
            go_ret
            exact ⟨by rw [hv.out]; rfl, below_drewN (Below.refl _ _) _⟩
        · have hp0I : ¬ (p : Int) = 0 := by omega
          by_cases hq0 : q = 0
          · subst hq0
            replace hv : Hid (r = 1) := Lib.hid (by rw [hv.out]; exact cmpN_gt (by rw [Nat.zero_mul]; exact Nat.mul_pos (by omega) hd0))
            go_wp2_with fail
            go_ret
            exact ⟨by rw [hv.out]; rfl, below_drewN (Below.refl _ _) _⟩
          · have hq0I : ¬ (q : Int) = 0 := by omega
            go_wp2_with fail
            go_roundw
            case rel => exact ⟨d, q, b, p, rfl, by first | rfl | rw [hQ], rfl, by first | rfl | rw [hP], hd.out, Nat.lt_trans hqd.out hd.out, hb.out, Nat.lt_trans hpb.out hb.out, by omega, by omega, by rw [hv.out, Nat.mul_comm p d, Nat.mul_comm q b], ⟨_, rfl⟩⟩
            case measure =>
              have h1 := hpb.out
              have h2 := hqd.out
              simp [intOf]
              omega
set_option maxRecDepth 100000 in
set_option maxHeartbeats 1000000 in
theorem isymbol_any (n1 : Bool) (a1 d1 : ByteArray) (n2 : Bool) (a2 d2 : ByteArray) (s t p q d : Nat) (w : World)
    (z1 : a1.size ≤ 9223372036854775807) (z2 : d1.size ≤ 9223372036854775807) (z3 : a2.size ≤ 9223372036854775807) (z4 : d2.size ≤ 9223372036854775807)
    (ok1 : okA n1 a1 d1 = true) (ok2 : okA n2 a2 d2 = true) (hs : Hid (s = be (sl a1))) (ht : Hid (t = be (sl d1))) (hp : Hid (p = be (sl a2))) (hq : Hid (q = be (sl d2))) (hd2 : 2 ≤ d) (hd : d ≤ 64) :
    Calls Tryz.prog 102 #[.agg #[.bool n1, .string a1, .string d1], .agg #[.bool n2, .string a2, .string d2], .int .i64 (d : Int)] w (RetVal (.int .u8 ((symV s t p q d : Nat) : Int)) w) := by
  obtain ⟨-, -, k1, k2⟩ := okA_parts ok1
  obtain ⟨-, -, k3, k4⟩ := okA_parts ok2
  rw [← hs.out, ← ht.out] at k1
  rw [← ht.out] at k2
  rw [← hp.out, ← hq.out] at k3
  rw [← hq.out] at k4
  have hBW : Below w.heap.size w ((w.alloc (.cells #[.bool n1, .string a1, .string d1] 26)).alloc (.cells #[.bool n2, .string a2, .string d2] 26)) := ((Below.refl _ w).alloc (Nat.le_refl _) _).alloc (by simp) _
  have hK1 := (Blk.new w 26 #[.bool n1, .string a1, .string d1]).alloc (.cells #[.bool n2, .string a2, .string d2] 26)
  obtain ⟨l, hl⟩ : ∃ l, l = d * p := ⟨_, rfl⟩
  have hlb : l < 274877906944 := by
    have h1 : d * p ≤ 64 * 2147483647 := Nat.mul_le_mul hd (by omega)
    omega
  have hL : wrap64 ((d : Int) * (p : Int)) = (l : Int) := by
    have e : (d : Int) * (p : Int) = (l : Int) := by rw [hl]; push_cast; rfl
    rw [e]; exact wrap64_nat (by omega)
  replace hl := Lib.hid hl
  replace hlb := Lib.hid hlb
  have hd2I : (2 : Int) ≤ (d : Int) := by omega
  have hdI : (d : Int) ≤ 64 := by omega
  replace hBW := Lib.hid hBW
  replace hK1 := Lib.hid hK1
  go_enter Tryz.func102, Tryz.ntmps102
  go_wp2_with fail
  refine (ivalue_any n2 a2 d2 p q _ z3 z4 ok2 hp hq).mono ?_
  rintro en v1 ⟨rfl, hb⟩
  have hB1 := Lib.hid (hBW.out.trans (hb.mono (by simp; omega)))
  have hK2 := Blk.below hK1.out hb
  have c0 : v1.cell? ⟨w.heap.size, 0, none⟩ = some (.bool n1) := hK2.cell 0
  have c1 : v1.cell? ⟨w.heap.size, 1, none⟩ = some (.string a1) := hK2.cell 1
  have c2 : v1.cell? ⟨w.heap.size, 2, none⟩ = some (.string d1) := hK2.cell 2
  clear hb hBW hK1 hK2
  go_wp2_with fail
  refine (ivalue_any n1 a1 d1 s t _ z1 z2 ok1 hs ht).mono ?_
  rintro en v2 ⟨rfl, hb⟩
  have hB2 := Lib.hid (hB1.out.trans (hb.mono hB1.out.size))
  clear hb hB1 c0 c1 c2
  go_wp2_with fail
  simp only [hL]
  go_loopw [6, 12, 13] (fun _ kv _ wr => ∃ k : Nat, kv = .int .i64 (k : Int) ∧ k ≤ d ∧ (∀ j, j < k → (s + j * t) * q < d * p * t) ∧ Below w.heap.size w wr) (fun _ kv _ _ => d - (intOf kv).toNat)
  case atStart => exact ⟨0, rfl, Nat.zero_le _, fun j hj => by omega, hB2.out⟩
  case round =>
    obtain ⟨k, rfl, hkd, hlo, hBr⟩ := hrel
    replace hlo := Lib.hid hlo
    replace hBr := Lib.hid hBr
    have hmod : (k : Int).tmod (d : Int) = ((k % d : Nat) : Int) := tmod_nat k d
    have hkm : k % d < 64 := Nat.lt_of_lt_of_le (Nat.mod_lt _ (by omega)) hd
    have hd0 : ¬ (d : Int) = 0 := by omega
    obtain ⟨u, hu⟩ : ∃ u, u = k % d := ⟨_, rfl⟩
    rw [← hu] at hmod hkm
    have hu8 : IntKind.u8.wrap (u : Int) = (u : Int) := by rw [IntKind.wrap_u8]; omega
    have hw64 : wrap64 (u : Int) = (u : Int) := wrap64_nat (by omega)
    replace hu := Lib.hid hu
    replace hkm := Lib.hid hkm
    by_cases h0 : k < d
    · have h0I : (k : Int) < (d : Int) := by omega
      obtain ⟨m, hm⟩ : ∃ m, m = s + k * t := ⟨_, rfl⟩
      have hkt : k * t ≤ 137438953408 := Nat.mul_le_mul (Nat.le_trans (Nat.le_of_lt h0) hd) k2
      have hM : wrap64 ((s : Int) + wrap64 ((k : Int) * (t : Int))) = (m : Int) := by
        have e1 : (k : Int) * (t : Int) = ((k * t : Nat) : Int) := by push_cast; rfl
        rw [e1, wrap64_nat (by omega)]
        have e2 : (s : Int) + ((k * t : Nat) : Int) = (m : Int) := by rw [hm]; push_cast; rfl
        rw [e2]
        exact wrap64_nat (by omega)
      have hmb : m < 4611686018427387904 := by
        have h9 : m ≤ 2147483647 + 137438953408 := by rw [hm]; exact Nat.add_le_add (Nat.le_of_lt (Nat.lt_of_lt_of_le k1 k2)) hkt
        exact Nat.lt_of_le_of_lt h9 (by decide)
      replace hmb := Lib.hid hmb
      replace hm := Lib.hid hm
      clear hkt
      have hC := fun W => icompare_any l q m t W (by have := hlb.out; omega) (by omega) hmb.out (by omega) (by omega) (by omega)
      rw [hl.out, hm.out] at hC
      obtain ⟨r, hr⟩ : ∃ r, r = cmpN (d * p * t) ((s + k * t) * q) := ⟨_, rfl⟩
      rw [← hr, ← hl.out, ← hm.out] at hC
      replace hr := Lib.hid hr
      replace hC := Lib.hid hC
      go_wp2_with fail
      refine (hC.out _).mono ?_
      rintro en v3 ⟨rfl, hb⟩
      replace hBr := Lib.hid (hBr.out.trans (hb.mono hBr.out.size))
      clear hb
      rcases Nat.lt_trichotomy ((s + k * t) * q) (d * p * t) with h1 | h1 | h1
      · obtain rfl : r = 1 := by rw [hr.out]; exact cmpN_gt h1
        have hlo2 : Hid (∀ j, j < k + 1 → (s + j * t) * q < d * p * t) := Lib.hid (fun j hj => by
          by_cases e : j = k
          · subst e; exact h1
          · exact hlo.out j (by omega))
        clear h1 hr hC
        go_wp2_with fail
        go_roundw
        case rel => exact ⟨k + 1, by go_num, by omega, hlo2.out, hBr.out⟩
        case measure => simp [intOf]; omega
      · obtain rfl : r = 0 := by rw [hr.out]; exact cmpN_eq h1.symm
        have hv : Hid (symV s t p q d = 255) := Lib.hid (symV_star (by omega) k1 h1)
        clear h1 hr hC
        go_wp2_with fail
        go_ret
        exact ⟨by rw [hv.out]; rfl, hBr.out⟩
      · obtain rfl : r = -1 := by rw [hr.out]; exact cmpN_lt h1
        have hv : Hid (symV s t p q d = u) := Lib.hid (by rw [hu.out]; exact symV_count (by omega) (by omega) k1 k3 hlo.out (.inr h1))
        clear h1 hr hC
        go_wp2_with fail
        go_ret
        exact ⟨by rw [hv.out]; rfl, hBr.out⟩
    · obtain rfl : k = d := by omega
      have h0I : ¬ (k : Int) < (k : Int) := by omega
      have hv : Hid (symV s t p q k = u) := Lib.hid (by rw [hu.out]; exact symV_count (by omega) (by omega) k1 k3 hlo.out (.inl rfl))
      obtain rfl : u = 0 := by rw [hu.out, Nat.mod_self]
      go_wp2_with fail
      go_ret
      exact ⟨by rw [hv.out]; rfl, hBr.out⟩
theorem mayE_ok {b a : Bool} {d : Int} (h : mayE b a d = 0) : b = true ∧ a = true ∧ 2 ≤ d ∧ d ≤ 64 := by
  unfold mayE at h
  cases b <;> cases a <;> simp at h
  exact ⟨rfl, rfl, roundB_iff.1 h⟩
end Go.Proofs.YtoaggmegmgdgbaaGreat
