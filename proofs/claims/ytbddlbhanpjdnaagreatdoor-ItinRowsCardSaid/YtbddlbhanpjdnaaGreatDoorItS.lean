/- Package itin: at, however far; At. · A row from a place on, plain. -/
import Derived.Test.YtbddlbhanpjdnaaGreatDoorAdr
import Derived.Test.YtbddlbhanpjdnaaGreatDoorRowQ
import Derived.Deep.RegionHeld3
import Derived.Deep.RegionLaw
namespace Go.Proofs.YtbddlbhanpjdnaaGreatDoor
open Go.RowKit Go.Sort

set_option maxRecDepth 100000 in
set_option maxHeartbeats 1000000 in
/-- itin.at, however far. -/
theorem iatB_any {T1 T2 : TypeId} (A1 A2 : Option Addr) (n1 c1 n2 c2 n : Nat) (P Q : List Nat) (w : World) (h1 : Rd .u8 T1 w (.slice A1 n1 c1) P) (h2 : Rd .u8 T2 w (.slice A2 n2 c2) Q)
    (hQ : 0 < Q.length) (hP9 : P.length ≤ 1099511627776) (hQ9 : Q.length ≤ 1099511627776) (hn : n ≤ 9223372036854775807) :
    Calls Tryz.prog 44 #[.agg #[.slice A1 n1 c1, .slice A2 n2 c2], .int .i64 (n : Int)] w (RetVal (.int .u8 ((rowAt P Q n : Nat) : Int)) w) := by
  by_cases h0 : n < P.length
  · exact iat_any A1 A2 n1 c1 n2 c2 n P Q w h1 h2 hQ hP9 hQ9 (by omega)
  obtain ⟨x, hx⟩ : ∃ x, x = rowAt P Q n := ⟨_, rfl⟩
  rw [← hx]
  obtain ⟨rfl, hc1, hc1m, hcell1⟩ := rd_cells h1
  obtain ⟨rfl, hc2, hc2m, hcell2⟩ := rd_cells h2
  obtain ⟨a, ha⟩ : ∃ a, a = P.length := ⟨_, rfl⟩
  obtain ⟨b, hb⟩ : ∃ b, b = Q.length := ⟨_, rfl⟩
  have hBW : Below w.heap.size w (w.alloc (.cells #[.slice A1 a c1, .slice A2 b c2] 30)) := (Below.refl _ w).alloc (Nat.le_refl _) _
  replace hBW := Lib.hid hBW
  obtain ⟨g, off, rfl, hg, hcell⟩ := hcell2 (fun e => by rw [e] at hQ; exact absurd hQ (by simp))
  obtain ⟨j, hj⟩ : ∃ j, j = (n - P.length) % Q.length := ⟨_, rfl⟩
  obtain ⟨k, hk⟩ : ∃ k, k = n - P.length := ⟨_, rfl⟩
  have hjb : j < Q.length := by rw [hj]; exact Nat.mod_lt _ hQ
  have hcx : (w.alloc (.cells #[.slice A1 a c1, .slice (some ⟨g, off, none⟩) b c2] 30)).cell? ⟨g, off + j, none⟩ = some (.int .u8 (x : Int)) := by
    have e := hcell j x (by rw [hx, hj]; exact rowAt_per (by omega) hQ)
    exact (Lib.cell?_alloc_some _ e)
  rw [← hk] at hj
  have hji : (k : Int).tmod (b : Int) = (j : Int) := by rw [hj, hb]; exact tmod_nat _ _
  rw [← ha] at h0 hc1 hP9 hk ⊢
  rw [← hb] at hc2 hQ hQ9 hjb ⊢
  have h0I : ¬ (n : Int) < (a : Int) := by omega
  have hki : (n : Int) - (a : Int) = (k : Int) := by omega
  have hkw : IntKind.i64.wrap (k : Int) = (k : Int) := by rw [IntKind.wrap_i64]; omega
  have hkw2 : IntKind.i64.wrap ((n : Int) - (a : Int)) = (k : Int) := by rw [hki, hkw]
  have hkw3 : wrap64 ((n : Int) - (a : Int)) = (k : Int) := by rw [hki]; unfold wrap64; omega
  have hb0 : ¬ (b : Int) = 0 := by omega
  have hjI : (j : Int) < (b : Int) := by omega
  replace hx := Lib.hid hx
  replace hj := Lib.hid hj
  clear hcell1 hcell2 hcell h1 h2 ha hb hk hn
  go_enter Tryz.func44, Tryz.ntmps44
  go_wp2_with fail
  go_quiet (fail)
  go_wp2_with fail
  go_ret
  exact ⟨rfl, below_drewN hBW.out _⟩

theorem atE_cases {P Q : List Nat} {n : Int} : (atE P Q n = 220 ∧ mayI P Q = false) ∨ (atE P Q n = 2 ∧ mayI P Q = true ∧ n < 0) ∨ (atE P Q n = 0 ∧ mayI P Q = true ∧ ¬ n < 0) := by
  unfold atE
  cases h : mayI P Q
  · exact .inl ⟨rfl, rfl⟩
  · by_cases h2 : n < 0
    · exact .inr (.inl ⟨by simp [h2], rfl, h2⟩)
    · exact .inr (.inr ⟨by simp [h2], rfl, h2⟩)

set_option maxRecDepth 100000 in
set_option maxHeartbeats 1000000 in
/-- itin.At -/
theorem iAt_any (a b : Value) (P Q : List Nat) (n : Int) (w : World) (h : Itn w a b P Q) (hn : n ≤ 9223372036854775807) :
    Calls Tryz.prog 19 #[.agg #[a, b], .int .i64 n] w (RetVal (atV P Q n) w) := by
  obtain ⟨v, hv⟩ : ∃ v, v = atV P Q n := ⟨_, rfl⟩
  rw [← hv]
  have hI0 := h
  obtain ⟨⟨A1, n1, c1, T1, rfl, h1⟩, ⟨A2, n2, c2, T2, rfl, h2⟩, s1, s2, l1, l2⟩ := h
  obtain ⟨r, hr⟩ : ∃ r, r = chkE P Q := ⟨_, rfl⟩
  have hBW : Below w.heap.size w (w.alloc (.cells #[.slice A1 n1 c1, .slice A2 n2 c2] 30)) := (Below.refl _ w).alloc (Nat.le_refl _) _
  have k0 := Lib.hid (Blk.new w 30 #[.slice A1 n1 c1, .slice A2 n2 c2])
  have hC := fun W h1 h2 => iCheck_any (T1 := T1) (T2 := T2) A1 A2 n1 c1 n2 c2 P Q W h1 h2 s1 s2 l1 l2
  rw [← hr] at hC
  have hat : mayI P Q = true → ∀ (n : Nat) W, n ≤ 9223372036854775807 → Rd .u8 T1 W (.slice A1 n1 c1) P → Rd .u8 T2 W (.slice A2 n2 c2) Q → Calls Tryz.prog 44 #[.agg #[.slice A1 n1 c1, .slice A2 n2 c2], .int .i64 (n : Int)] W (RetVal (.int .u8 ((rowAt P Q n : Nat) : Int)) W) := fun hm n W hn h1 h2 => by
    obtain ⟨m1, m2, -, -⟩ := mayI_spec hm
    exact iatB_any (T1 := T1) (T2 := T2) A1 A2 n1 c1 n2 c2 n P Q W h1 h2 m1 (by omega) (by omega) hn
  have hR1 := Lib.hid h1
  have hR2 := Lib.hid h2
  replace hBW := Lib.hid hBW
  replace hC := Lib.hid hC
  replace hat := Lib.hid hat
  replace hr := Lib.hid hr
  replace hv := Lib.hid hv
  replace hn := Lib.hid hn
  clear h1 h2 s1 s2 l1 l2 hI0
  go_enter Tryz.func19, Tryz.ntmps19
  go_wp2_with fail
  refine (hC.out _ (hR1.out.below hBW.out) (hR2.out.below hBW.out)).mono ?_
  rintro en v1 ⟨rfl, hb⟩
  have hB1 := Lib.hid (hBW.out.trans (hb.mono hBW.out.size))
  have j0 := Blk.below k0.out hb
  have a0 : v1.cell? ⟨w.heap.size, 0, none⟩ = some (.slice A1 n1 c1) := j0.cell 0
  have a1 : v1.cell? ⟨w.heap.size, 1, none⟩ = some (.slice A2 n2 c2) := j0.cell 1
  clear hb hBW k0 hC j0
  rcases atE_cases (P := P) (Q := Q) (n := n) with ⟨e1, e2⟩ | ⟨e1, e2, e3⟩ | ⟨e1, e2, e3⟩
  · obtain rfl : r = 220 := by rw [hr.out]; exact mayI_no e2
    have hv2 : Hid (v = .tuple #[.int .u8 0, .int .i64 220]) := Lib.hid (by rw [hv.out, atV, e1]; rfl)
    clear e1 e2 hr hv hat
    go_wp2_with fail
    go_ret2
    exact ⟨by rw [hv2.out]; rfl, hB1.out⟩
  · obtain rfl : r = 0 := by rw [hr.out]; exact mayI_yes e2
    have hv2 : Hid (v = .tuple #[.int .u8 0, .int .i64 2]) := Lib.hid (by rw [hv.out, atV, e1]; rfl)
    clear e1 e2 hr hv hat
    go_wp2_with fail
    go_ret2
    exact ⟨by rw [hv2.out]; rfl, hB1.out⟩
  · obtain rfl : r = 0 := by rw [hr.out]; exact mayI_yes e2
    obtain ⟨m, rfl⟩ : ∃ m : Nat, n = (m : Int) := ⟨n.toNat, by omega⟩
    have hm9 : m ≤ 9223372036854775807 := by have := hn.out; omega
    have hat2 := fun W h1 h2 => hat.out e2 m W hm9 h1 h2
    obtain ⟨x, hx⟩ : ∃ x, x = rowAt P Q m := ⟨_, rfl⟩
    have hv2 : Hid (v = .tuple #[.int .u8 (x : Int), .int .i64 0]) := Lib.hid (by rw [hv.out, atV, e1, if_pos rfl, Int.toNat_natCast, hx])
    rw [← hx] at hat2
    replace hat2 := Lib.hid hat2
    clear e1 e2 hr hv hat hm9 hx
    go_wp2_with fail
    refine (hat2.out _ (hR1.out.below hB1.out) (hR2.out.below hB1.out)).mono ?_
    rintro en v2 ⟨rfl, hb⟩
    have hB2 := Lib.hid (hB1.out.trans (hb.mono hB1.out.size))
    clear hb
    go_wp2_with fail
    go_ret2
    exact ⟨by rw [hv2.out]; rfl, hB2.out⟩

/-- What stands ahead, and in the period, from a place on: not yet in lowest form. -/
def shA (P Q : List Nat) (n : Nat) : List Nat := P.drop n
def shB (P Q : List Nat) (n : Nat) : List Nat := if n < P.length then Q else Q.drop ((n - P.length) % Q.length) ++ Q.take ((n - P.length) % Q.length)
theorem shB_len (P : List Nat) {Q : List Nat} (n : Nat) : (shB P Q n).length = Q.length := by
  unfold shB
  split
  · rfl
  · rw [List.length_append, List.length_drop, List.length_take]
    by_cases h : Q.length = 0
    · omega
    · have := Nat.mod_lt (n - P.length) (Nat.pos_of_ne_zero h); omega
theorem sh_at {P Q : List Nat} (hQ : 0 < Q.length) (n m : Nat) : rowAt (shA P Q n) (shB P Q n) m = rowAt P Q (n + m) := by
  have hA : (shA P Q n).length = P.length - n := by unfold shA; rw [List.length_drop]
  have hB := shB_len P (Q := Q) n
  rcases Nat.lt_or_ge m (P.length - n) with h | h
  · have e := rowAt_pre (p := shA P Q n) (q := shB P Q n) (n := m) (by rw [hA]; exact h)
    have e2 := rowAt_pre (p := P) (q := Q) (n := n + m) (by omega)
    unfold shA at e
    rw [List.getElem?_drop, e2] at e
    exact (Option.some.inj e).symm
  · have e := rowAt_per (p := shA P Q n) (q := shB P Q n) (n := m) (by rw [hA]; exact h) (by rw [hB]; exact hQ)
    have e2 := rowAt_per (p := P) (q := Q) (n := n + m) (by omega) hQ
    rw [hA, hB] at e
    have key : (shB P Q n)[(m - (P.length - n)) % Q.length]? = Q[(n + m - P.length) % Q.length]? := by
      unfold shB
      split
      · rename_i h1
        congr 2
        omega
      · rename_i h1
        obtain ⟨k, hk⟩ : ∃ k, k = (n - P.length) % Q.length := ⟨_, rfl⟩
        have hkq : k < Q.length := by rw [hk]; exact Nat.mod_lt _ hQ
        obtain ⟨i, hi⟩ : ∃ i, i = m % Q.length := ⟨_, rfl⟩
        have hiq : i < Q.length := by rw [hi]; exact Nat.mod_lt _ hQ
        rw [← hk, show m - (P.length - n) = m by omega, ← hi]
        have e3 : (n + m - P.length) % Q.length = (k + i) % Q.length := by
          rw [show n + m - P.length = (n - P.length) + m by omega, hk, hi, Nat.add_mod]
        rw [e3]
        rcases Nat.lt_or_ge i (Q.length - k) with h2 | h2
        · rw [List.getElem?_append_left (by rw [List.length_drop]; exact h2), List.getElem?_drop, Nat.mod_eq_of_lt (by omega)]
        · rw [List.getElem?_append_right (by rw [List.length_drop]; exact h2), List.length_drop, List.getElem?_take_of_lt (by omega)]
          congr 1
          rw [Nat.mod_eq_sub_mod (by omega), Nat.mod_eq_of_lt (by omega)]
          omega
    rw [key, e2] at e
    exact (Option.some.inj e).symm
def shP (P Q : List Nat) (n : Nat) : List Nat := lowP (shA P Q n) (shB P Q n)
def shQ (P Q : List Nat) (n : Nat) : List Nat := lowQ (shA P Q n) (shB P Q n)

/-- append, of a slice that reads, as one step of a region that draws its order. -/
theorem step_append_rd {P : Program} {ops : Array Oper} {o : Oper} {a : Act} {w : World} {K : Act → World → Prop} {Q : Exit → Act → World → Prop} {E : Prop} (hgd : o.guard = none) (s x : Operand) (t : TypeId)
    (ho : o.op = .call { callee := .builtin .append, args := #[s, x], argTypes := #[t, t] })
    (k : IntKind) (base : Nat) (e T : TypeId) (i : TypeInfo) (z : Value) (bytes : Nat) (ht : P.underlying t = some (.slice e)) (hi : P.info? e = some i) (hz : i.zero = some z)
    (hsize : i.size = 1) (hby : i.bytes = bytes) (hzs : z.cells.size = 1) (v : Value) (n : Nat) (xs : List Value) (hs : a.eval s = v) (hown : w.ownsRow base e 1 v n xs)
    (A : Option Addr) (m c : Nat) (l : List Nat) (hx : a.eval x = .slice A m c) (hR : Rd k T w (.slice A m c) l) (h63 : n + m ≤ maxLen) (hbytes : (n + m) * bytes ≤ 140737488355328) (hbase : base ≤ w.heap.size)
    (h : ∀ v' w', w'.ownsRow base e 1 v' (n + m) (xs ++ ivs k l) → w.grownBy w' v.ownBlock → K (a.put o.dst v') w') :
    if Region.wanted o (yielded ops a.tmps) = true then Oper.wp P o a w K Q else E := by
  have hw : Region.wanted o (yielded ops a.tmps) = true := by simp [Region.wanted, hgd]
  rw [if_pos hw]
  obtain ⟨v', w', hrun, ho', hg'⟩ := app_rd (P := P) (ty := o.type) ht hi hz hsize hby hzs hown hR h63 hbytes hbase
  unfold Oper.wp
  simp [execOp, ho, resolve, invoke, builtin, hs, hx, hrun, Result.andThen]
  exact h v' w' ho' hg'


/-- Blocks that hold rows. -/
def Keeps (W : World) (l : List (Nat × Array Value)) : Prop := ∀ (i : Nat) (x : Nat × Array Value), l[i]? = some x → Blk W x.1 30 x.2
section
variable {W W' : World} {l : List (Nat × Array Value)}
theorem Keeps.below (h : Keeps W l) (hb : Below W.heap.size W W') : Keeps W' l := fun i x hx => Blk.below (h i x hx) hb
theorem Keeps.alloc (h : Keeps W l) (o : Obj) : Keeps (W.alloc o) l := fun i x hx => Blk.alloc (h i x hx) o
theorem Keeps.at_ (h : Keeps W l) (i : Nat) {g : Nat} {cs : Array Value} (hx : l[i]? = some (g, cs)) : Blk W g 30 cs := h i _ hx
theorem Keeps.one {g : Nat} {cs : Array Value} (h : Blk W g 30 cs) : Keeps W [(g, cs)] := fun i x hx => by
  match i, hx with
  | 0, hx => cases hx; exact h
theorem Keeps.snoc (h : Keeps W l) {g : Nat} {cs : Array Value} (k : Blk W g 30 cs) : Keeps W (l ++ [(g, cs)]) := fun i x hx => by
  rcases Nat.lt_or_ge i l.length with hi | hi
  · rw [List.getElem?_append_left hi] at hx; exact h i x hx
  · rw [List.getElem?_append_right hi] at hx
    match i - l.length, hx with
    | 0, hx => cases hx; exact k
end


end Go.Proofs.YtbddlbhanpjdnaaGreatDoor
