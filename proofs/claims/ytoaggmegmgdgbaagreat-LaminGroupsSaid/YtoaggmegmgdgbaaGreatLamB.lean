import Derived.Test.YtoaggmegmgdgbaaGreatRnd
import Derived.Deep.CutBlock
namespace Go.Proofs.YtoaggmegmgdgbaaGreat
open Go.RowKit Go.Sort
theorem natS_injA {a b : Nat} (h : natS a = natS b) : a = b := by rw [← be_natS a, h, be_natS]
def Ang (p : Nat × Nat) : Prop := Nat.gcd p.1 p.2 = 1 ∧ p.1 < p.2 ∧ p.2 ≤ 2147483647
def cmpP (p q : Nat × Nat) : Int := cmpN (p.1 * q.2) (q.1 * p.2)
theorem Ang.ok {p : Nat × Nat} (h : Ang p) : okA false (natS p.1) (natS p.2) = true := okA_natS h.1 h.2.1 h.2.2
theorem Ang.of_ok {n : Bool} {a d : ByteArray} (h : okA n a d = true) : Ang (be (sl a), be (sl d)) ∧ n = false ∧ a = natS (be (sl a)) ∧ d = natS (be (sl d)) := by
  obtain ⟨h1, h2, h3, h4, h5, h6⟩ := okA_spec h
  exact ⟨⟨h4, h5, h6⟩, h1, (natS_be h2).symm, (natS_be h3).symm⟩
theorem cmpP_refl (p : Nat × Nat) : cmpP p p = 0 := by simp [cmpP, cmpN]
theorem cmpP_eq {p q : Nat × Nat} (hp : Ang p) (hq : Ang q) : cmpP p q = 0 ↔ p = q := by
  constructor
  · intro h
    have h1 : p.1 * q.2 = q.1 * p.2 := by
      unfold cmpP cmpN at h
      split at h
      · cases h
      · split at h
        · cases h
        · omega
    obtain ⟨-, h2, h3⟩ := okA_inj hp.ok hq.ok (by rw [be_natS, be_natS, be_natS, be_natS]; exact h1)
    exact Prod.ext (natS_injA h2) (natS_injA h3)
  · rintro rfl
    exact cmpP_refl _
theorem cmpP_lt {p q : Nat × Nat} : cmpP p q < 0 ↔ p.1 * q.2 < q.1 * p.2 := by
  unfold cmpP cmpN
  split
  · rename_i h; simp [h]
  · split <;> simp <;> omega
theorem cmpP_gt {p q : Nat × Nat} : 0 < cmpP p q ↔ q.1 * p.2 < p.1 * q.2 := by
  unfold cmpP cmpN
  split
  · rename_i h; simp; omega
  · split
    · rename_i h; simp [h]
    · simp; omega
theorem cmpP_anti {p q : Nat × Nat} : cmpP q p < 0 ↔ 0 < cmpP p q := by rw [cmpP_lt, cmpP_gt]
theorem cmpP_bd (p q : Nat × Nat) : cmpP p q = -1 ∨ cmpP p q = 0 ∨ cmpP p q = 1 := by
  unfold cmpP cmpN
  split
  · exact .inl rfl
  · split
    · exact .inr (.inr rfl)
    · exact .inr (.inl rfl)
theorem Ang.pos {p : Nat × Nat} (h : Ang p) : 0 < p.2 := by have := h.2.1; omega
theorem cmpP_trans {p q r : Nat × Nat} (_hq : 0 < q.2) (hr : 0 < r.2) (h1 : cmpP p q < 0) (h2 : cmpP q r < 0) : cmpP p r < 0 := by
  rw [cmpP_lt] at *
  have a1 := Nat.mul_lt_mul_of_pos_right h1 hr
  have a2 := Nat.mul_le_mul_right p.2 (Nat.le_of_lt h2)
  refine Nat.lt_of_mul_lt_mul_right (a := q.2) ?_
  have e1 : p.1 * r.2 * q.2 = p.1 * q.2 * r.2 := by ac_rfl
  have e2 : q.1 * p.2 * r.2 = q.1 * r.2 * p.2 := by ac_rfl
  have e3 : r.1 * p.2 * q.2 = r.1 * q.2 * p.2 := by ac_rfl
  omega
def leafE (l : (Nat × Nat) × (Nat × Nat)) : List Value := [.bool false, .string (natS l.1.1), .string (natS l.1.2), .bool false, .string (natS l.2.1), .string (natS l.2.2)]
def ordL (l m : (Nat × Nat) × (Nat × Nat)) : Int := if cmpP l.1 m.1 = 0 then cmpP l.2 m.2 else cmpP l.1 m.1
set_option maxRecDepth 100000 in
set_option maxHeartbeats 1000000 in
theorem lcmp_any (p q : Nat × Nat) (w : World) (hp : Ang p) (hq : Ang q) :
    Calls Tryz.prog 65 #[.agg #[.bool false, .string (natS p.1), .string (natS p.2)], .agg #[.bool false, .string (natS q.1), .string (natS q.2)]] w (RetVal (.int .i64 (cmpP p q)) w) := by
  have hC : Hid (∀ W, Calls Tryz.prog 109 #[.agg #[.bool false, .string (natS p.1), .string (natS p.2)], .agg #[.bool false, .string (natS q.1), .string (natS q.2)]] W (RetVal (.tuple #[.int .i64 (cmpP p q), .int .i64 0]) W)) := Lib.hid (fun W => by
    have h := acmp_any false (natS p.1) (natS p.2) false (natS q.1) (natS q.2) W (okA_size hp.ok).1 (okA_size hp.ok).2 (okA_size hq.ok).1 (okA_size hq.ok).2
    have e : acmpV false (natS p.1) (natS p.2) false (natS q.1) (natS q.2) = .tuple #[.int .i64 (cmpP p q), .int .i64 0] := by
      rw [acmpV, hp.ok, hq.ok, if_pos (by rfl), be_natS, be_natS, be_natS, be_natS]; rfl
    rw [e] at h
    exact h)
  obtain ⟨c, hc⟩ : ∃ c, c = cmpP p q := ⟨_, rfl⟩
  rw [← hc] at hC ⊢
  obtain ⟨a1, ha1⟩ : ∃ a, a = natS p.1 := ⟨_, rfl⟩
  obtain ⟨d1, hd1⟩ : ∃ a, a = natS p.2 := ⟨_, rfl⟩
  obtain ⟨a2, ha2⟩ : ∃ a, a = natS q.1 := ⟨_, rfl⟩
  obtain ⟨d2, hd2⟩ : ∃ a, a = natS q.2 := ⟨_, rfl⟩
  rw [← ha1, ← hd1, ← ha2, ← hd2] at hC ⊢
  have hBW : Hid (Below w.heap.size w ((w.alloc (.cells #[.bool false, .string a1, .string d1] 26)).alloc (.cells #[.bool false, .string a2, .string d2] 26))) := Lib.hid (((Below.refl _ w).alloc (Nat.le_refl _) _).alloc (by simp) _)
  clear hc ha1 hd1 ha2 hd2 hp hq
  go_enter Tryz.func65, Tryz.ntmps65
  go_wp2_with fail
  refine (hC.out _).mono ?_
  rintro en w1 ⟨rfl, hb⟩
  have hB := Lib.hid (hBW.out.trans (hb.mono hBW.out.size))
  clear hb hBW hC
  go_wp2_with fail
  go_ret
  exact ⟨rfl, hB.out⟩
open Go.RowKit Go.Sort
def KeepT (W : World) (l : List (Nat × TypeId × Array Value)) : Prop := ∀ (i : Nat) (x : Nat × TypeId × Array Value), l[i]? = some x → Blk W x.1 x.2.1 x.2.2
section
variable {W W' : World} {l : List (Nat × TypeId × Array Value)}
theorem KeepT.below (h : KeepT W l) (hb : Below W.heap.size W W') : KeepT W' l := fun i x hx => Blk.below (h i x hx) hb
theorem KeepT.alloc (h : KeepT W l) (o : Obj) : KeepT (W.alloc o) l := fun i x hx => Blk.alloc (h i x hx) o
theorem KeepT.drewN (h : KeepT W l) (n : Nat) : KeepT (W.drewN n) l := fun i x hx => Blk.drewN (h i x hx) n
theorem KeepT.at_ (h : KeepT W l) (i : Nat) {g : Nat} {T : TypeId} {cs : Array Value} (hx : l[i]? = some (g, T, cs)) : Blk W g T cs := h i _ hx
theorem KeepT.one {g : Nat} {T : TypeId} {cs : Array Value} (h : Blk W g T cs) : KeepT W [(g, T, cs)] := fun i x hx => by
  match i, hx with
  | 0, hx => cases hx; exact h
theorem KeepT.snoc (h : KeepT W l) {g : Nat} {T : TypeId} {cs : Array Value} (k : Blk W g T cs) : KeepT W (l ++ [(g, T, cs)]) := fun i x hx => by
  rcases Nat.lt_or_ge i l.length with hi | hi
  · rw [List.getElem?_append_left hi] at hx; exact h i x hx
  · rw [List.getElem?_append_right hi] at hx
    match i - l.length, hx with
    | 0, hx => cases hx; exact k
end
theorem neqB {a b : ByteArray} (h : a ≠ b) : (a.toList == b.toList) = false := by
  rw [beq_eq_false_iff_ne]
  intro e
  rw [ByteArray.toList_eq, ByteArray.toList_eq] at e
  refine h ?_
  cases a; cases b
  simpa using e
theorem pair_cases (p q : Nat × Nat) : (p = q ∧ ((natS p.1).toList == (natS q.1).toList) = true ∧ ((natS p.2).toList == (natS q.2).toList) = true) ∨ (p ≠ q ∧ ((natS p.1).toList == (natS q.1).toList) = true ∧ ((natS p.2).toList == (natS q.2).toList) = false) ∨ (p ≠ q ∧ ((natS p.1).toList == (natS q.1).toList) = false) := by
  by_cases h1 : p.1 = q.1
  · by_cases h2 : p.2 = q.2
    · exact .inl ⟨Prod.ext h1 h2, by rw [h1]; exact beq_self_eq_true _, by rw [h2]; exact beq_self_eq_true _⟩
    · exact .inr (.inl ⟨fun e => h2 (by rw [e]), by rw [h1]; exact beq_self_eq_true _, neqB (fun e => h2 (natS_injA e))⟩)
  · exact .inr (.inr ⟨fun e => h1 (by rw [e]), neqB (fun e => h1 (natS_injA e))⟩)
abbrev Lf := (Nat × Nat) × (Nat × Nat)
def AngL (l : Lf) : Prop := Ang l.1 ∧ Ang l.2
def endP (l : Lf) (a : Nat × Nat) : Bool := decide (a = l.1) || decide (a = l.2)
def withinP (l : Lf) (a : Nat × Nat) : Bool := decide (cmpP l.1 a < 0) && decide (cmpP a l.2 < 0)
def partsP (l : Lf) (a b : Nat × Nat) : Bool := !endP l a && (!endP l b && (withinP l a != withinP l b))
def mkL (a b : Nat × Nat) : Lf := if cmpP b a < 0 then (b, a) else (a, b)
set_option maxRecDepth 100000 in
set_option maxHeartbeats 2000000 in
theorem lbelow_any (p q : Nat × Nat) (w : World) (hp : Ang p) (hq : Ang q) :
    Calls Tryz.prog 114 #[.agg #[.bool false, .string (natS p.1), .string (natS p.2)], .agg #[.bool false, .string (natS q.1), .string (natS q.2)]] w (RetVal (.bool (decide (cmpP p q < 0))) w) := by
  obtain ⟨c, hc⟩ : ∃ c, c = cmpP p q := ⟨_, rfl⟩
  have hC := Lib.hid (fun W => lcmp_any p q W hp hq)
  rw [← hc] at hC ⊢
  have hBW : Below w.heap.size w ((w.alloc (.cells #[.bool false, .string (natS p.1), .string (natS p.2)] 26)).alloc (.cells #[.bool false, .string (natS q.1), .string (natS q.2)] 26)) := (((Below.refl _ w).alloc (Nat.le_refl _) _).alloc (by simp) _)
  have kk0 := ((Blk.new w 26 #[.bool false, .string (natS p.1), .string (natS p.2)]).alloc (.cells #[.bool false, .string (natS q.1), .string (natS q.2)] 26))
  have kk1 := (Blk.new (w.alloc (.cells #[.bool false, .string (natS p.1), .string (natS p.2)] 26)) 26 #[.bool false, .string (natS q.1), .string (natS q.2)])
  simp only [World.size_alloc] at kk1
  have K := Lib.hid ((KeepT.one kk0).snoc kk1)
  have hB := Lib.hid hBW
  clear hBW kk0 kk1
  clear hc
  go_enter Tryz.func114, Tryz.ntmps114
  go_wp2_with fail
  refine (hC.out _).mono ?_
  rintro en w1 ⟨rfl, hb⟩
  replace hB := Lib.hid (hB.out.trans (hb.mono hB.out.size))
  replace K := Lib.hid ((K.out.below hb))
  clear  hb hC
  go_wp2_with fail
  go_ret
  exact ⟨rfl, hB.out⟩
set_option maxRecDepth 100000 in
set_option maxHeartbeats 2000000 in
theorem lorder_any (l m : Lf) (w : World) (hl : AngL l) (hm : AngL m) :
    Calls Tryz.prog 105 #[.agg #[.bool false, .string (natS l.1.1), .string (natS l.1.2), .bool false, .string (natS l.2.1), .string (natS l.2.2)], .agg #[.bool false, .string (natS m.1.1), .string (natS m.1.2), .bool false, .string (natS m.2.1), .string (natS m.2.2)]] w (RetVal (.int .i64 (ordL l m)) w) := by
  obtain ⟨c, hc⟩ : ∃ c, c = cmpP l.1 m.1 := ⟨_, rfl⟩
  obtain ⟨d, hd⟩ : ∃ c, c = cmpP l.2 m.2 := ⟨_, rfl⟩
  have hC := Lib.hid (fun W => lcmp_any l.1 m.1 W hl.1 hm.1)
  have hD := Lib.hid (fun W => lcmp_any l.2 m.2 W hl.2 hm.2)
  have hO : Hid (ordL l m = if c = 0 then d else c) := Lib.hid (by rw [hc, hd]; rfl)
  rw [← hc] at hC
  rw [← hd] at hD
  have hBW : Below w.heap.size w ((w.alloc (.cells #[.bool false, .string (natS l.1.1), .string (natS l.1.2), .bool false, .string (natS l.2.1), .string (natS l.2.2)] 38)).alloc (.cells #[.bool false, .string (natS m.1.1), .string (natS m.1.2), .bool false, .string (natS m.2.1), .string (natS m.2.2)] 38)) := (((Below.refl _ w).alloc (Nat.le_refl _) _).alloc (by simp) _)
  have kk0 := ((Blk.new w 38 #[.bool false, .string (natS l.1.1), .string (natS l.1.2), .bool false, .string (natS l.2.1), .string (natS l.2.2)]).alloc (.cells #[.bool false, .string (natS m.1.1), .string (natS m.1.2), .bool false, .string (natS m.2.1), .string (natS m.2.2)] 38))
  have kk1 := (Blk.new (w.alloc (.cells #[.bool false, .string (natS l.1.1), .string (natS l.1.2), .bool false, .string (natS l.2.1), .string (natS l.2.2)] 38)) 38 #[.bool false, .string (natS m.1.1), .string (natS m.1.2), .bool false, .string (natS m.2.1), .string (natS m.2.2)])
  simp only [World.size_alloc] at kk1
  have K := Lib.hid ((KeepT.one kk0).snoc kk1)
  have hB := Lib.hid hBW
  clear hBW kk0 kk1
  clear hc hd
  go_enter Tryz.func105, Tryz.ntmps105
  go_wp2_with fail
  refine (hC.out _).mono ?_
  rintro en w1 ⟨rfl, hb⟩
  replace hB := Lib.hid (hB.out.trans (hb.mono hB.out.size))
  replace K := Lib.hid ((K.out.below hb))
  clear  hb hC
  have ll0 : w1.cell? ⟨w.heap.size, 0, none⟩ = some (.bool false) := (K.out.at_ 0 rfl).cell 0
  have ll1 : w1.cell? ⟨w.heap.size, 1, none⟩ = some (.string (natS l.1.1)) := (K.out.at_ 0 rfl).cell 1
  have ll2 : w1.cell? ⟨w.heap.size, 2, none⟩ = some (.string (natS l.1.2)) := (K.out.at_ 0 rfl).cell 2
  have ll3 : w1.cell? ⟨w.heap.size, 3, none⟩ = some (.bool false) := (K.out.at_ 0 rfl).cell 3
  have ll4 : w1.cell? ⟨w.heap.size, 4, none⟩ = some (.string (natS l.2.1)) := (K.out.at_ 0 rfl).cell 4
  have ll5 : w1.cell? ⟨w.heap.size, 5, none⟩ = some (.string (natS l.2.2)) := (K.out.at_ 0 rfl).cell 5
  have mm0 : w1.cell? ⟨w.heap.size + 1, 0, none⟩ = some (.bool false) := (K.out.at_ 1 rfl).cell 0
  have mm1 : w1.cell? ⟨w.heap.size + 1, 1, none⟩ = some (.string (natS m.1.1)) := (K.out.at_ 1 rfl).cell 1
  have mm2 : w1.cell? ⟨w.heap.size + 1, 2, none⟩ = some (.string (natS m.1.2)) := (K.out.at_ 1 rfl).cell 2
  have mm3 : w1.cell? ⟨w.heap.size + 1, 3, none⟩ = some (.bool false) := (K.out.at_ 1 rfl).cell 3
  have mm4 : w1.cell? ⟨w.heap.size + 1, 4, none⟩ = some (.string (natS m.2.1)) := (K.out.at_ 1 rfl).cell 4
  have mm5 : w1.cell? ⟨w.heap.size + 1, 5, none⟩ = some (.string (natS m.2.2)) := (K.out.at_ 1 rfl).cell 5
  by_cases h0 : c = 0
  · have hx : (c != 0) = false := by rw [h0]; rfl
    replace hO : Hid (ordL l m = d) := Lib.hid (by rw [hO.out, if_pos h0])
    clear h0
    go_wp2_with fail
    refine (hD.out _).mono ?_
    rintro en w2 ⟨rfl, hb⟩
    replace hB := Lib.hid (hB.out.trans (hb.mono hB.out.size))
    replace K := Lib.hid ((K.out.below hb))
    clear ll0 ll1 ll2 ll3 ll4 ll5 mm0 mm1 mm2 mm3 mm4 mm5 hb hD
    go_wp2_with fail
    go_ret
    exact ⟨by rw [hO.out]; rfl, hB.out⟩
  · have hx : (c != 0) = true := by rw [bne_iff_ne]; exact h0
    replace hO : Hid (ordL l m = c) := Lib.hid (by rw [hO.out, if_neg h0])
    clear h0
    go_wp2_with fail
    go_ret
    exact ⟨by rw [hO.out]; rfl, hB.out⟩
set_option maxRecDepth 100000 in
set_option maxHeartbeats 2000000 in
theorem lend_any (l : Lf) (a : Nat × Nat) (w : World) :
    Calls Tryz.prog 135 #[.agg #[.bool false, .string (natS l.1.1), .string (natS l.1.2), .bool false, .string (natS l.2.1), .string (natS l.2.2)], .agg #[.bool false, .string (natS a.1), .string (natS a.2)]] w (RetVal (.bool (endP l a)) w) := by
  have e1 := pair_cases a l.1
  have e2 := pair_cases a l.2
  obtain ⟨r, hr⟩ : ∃ r, r = endP l a := ⟨_, rfl⟩
  rw [← hr]
  have hBW : Below w.heap.size w ((w.alloc (.cells #[.bool false, .string (natS l.1.1), .string (natS l.1.2), .bool false, .string (natS l.2.1), .string (natS l.2.2)] 38)).alloc (.cells #[.bool false, .string (natS a.1), .string (natS a.2)] 26)) := (((Below.refl _ w).alloc (Nat.le_refl _) _).alloc (by simp) _)
  have kk0 := ((Blk.new w 38 #[.bool false, .string (natS l.1.1), .string (natS l.1.2), .bool false, .string (natS l.2.1), .string (natS l.2.2)]).alloc (.cells #[.bool false, .string (natS a.1), .string (natS a.2)] 26))
  have kk1 := (Blk.new (w.alloc (.cells #[.bool false, .string (natS l.1.1), .string (natS l.1.2), .bool false, .string (natS l.2.1), .string (natS l.2.2)] 38)) 26 #[.bool false, .string (natS a.1), .string (natS a.2)])
  simp only [World.size_alloc] at kk1
  have K := Lib.hid ((KeepT.one kk0).snoc kk1)
  have hB := Lib.hid hBW
  clear hBW kk0 kk1
  rcases e1 with ⟨e1, x1, x2⟩ | ⟨e1, x1, x2⟩ | ⟨e1, x1⟩
  · obtain rfl : r = true := by rw [hr, endP, decide_eq_true e1]; rfl
    clear e1 e2 hr
    go_enter Tryz.func135, Tryz.ntmps135
    go_wp2_with fail
    go_ret
    exact ⟨rfl, hB.out⟩
  all_goals
    rcases e2 with ⟨e2, x3, x4⟩ | ⟨e2, x3, x4⟩ | ⟨e2, x3⟩
    · obtain rfl : r = true := by rw [hr, endP, decide_eq_true e2]; exact Bool.or_true _
      clear e1 e2 hr
      go_enter Tryz.func135, Tryz.ntmps135
      go_wp2_with fail
      go_ret
      exact ⟨rfl, hB.out⟩
    all_goals
      obtain rfl : r = false := by rw [hr, endP, decide_eq_false e1, decide_eq_false e2]; rfl
      clear e1 e2 hr
      go_enter Tryz.func135, Tryz.ntmps135
      go_wp2_with fail
      go_ret
      exact ⟨rfl, hB.out⟩
set_option maxRecDepth 100000 in
set_option maxHeartbeats 2000000 in
theorem lwithin_any (l : Lf) (a : Nat × Nat) (w : World) (hl : AngL l) (ha : Ang a) :
    Calls Tryz.prog 136 #[.agg #[.bool false, .string (natS l.1.1), .string (natS l.1.2), .bool false, .string (natS l.2.1), .string (natS l.2.2)], .agg #[.bool false, .string (natS a.1), .string (natS a.2)]] w (RetVal (.bool (withinP l a)) w) := by
  obtain ⟨b1, h1⟩ : ∃ c, c = decide (cmpP l.1 a < 0) := ⟨_, rfl⟩
  obtain ⟨b2, h2⟩ : ∃ c, c = decide (cmpP a l.2 < 0) := ⟨_, rfl⟩
  have hC := Lib.hid (fun W => lbelow_any l.1 a W hl.1 ha)
  have hD := Lib.hid (fun W => lbelow_any a l.2 W ha hl.2)
  have hO : Hid (withinP l a = (b1 && b2)) := Lib.hid (by rw [h1, h2]; rfl)
  rw [← h1] at hC
  rw [← h2] at hD
  have hBW : Below w.heap.size w ((w.alloc (.cells #[.bool false, .string (natS l.1.1), .string (natS l.1.2), .bool false, .string (natS l.2.1), .string (natS l.2.2)] 38)).alloc (.cells #[.bool false, .string (natS a.1), .string (natS a.2)] 26)) := (((Below.refl _ w).alloc (Nat.le_refl _) _).alloc (by simp) _)
  have kk0 := ((Blk.new w 38 #[.bool false, .string (natS l.1.1), .string (natS l.1.2), .bool false, .string (natS l.2.1), .string (natS l.2.2)]).alloc (.cells #[.bool false, .string (natS a.1), .string (natS a.2)] 26))
  have kk1 := (Blk.new (w.alloc (.cells #[.bool false, .string (natS l.1.1), .string (natS l.1.2), .bool false, .string (natS l.2.1), .string (natS l.2.2)] 38)) 26 #[.bool false, .string (natS a.1), .string (natS a.2)])
  simp only [World.size_alloc] at kk1
  have K := Lib.hid ((KeepT.one kk0).snoc kk1)
  have hB := Lib.hid hBW
  clear hBW kk0 kk1
  clear h1 h2
  go_enter Tryz.func136, Tryz.ntmps136
  go_wp2_with fail
  refine (hC.out _).mono ?_
  rintro en w1 ⟨rfl, hb⟩
  replace hB := Lib.hid (hB.out.trans (hb.mono hB.out.size))
  replace K := Lib.hid ((K.out.below hb))
  clear  hb hC
  have ll0 : w1.cell? ⟨w.heap.size, 0, none⟩ = some (.bool false) := (K.out.at_ 0 rfl).cell 0
  have ll1 : w1.cell? ⟨w.heap.size, 1, none⟩ = some (.string (natS l.1.1)) := (K.out.at_ 0 rfl).cell 1
  have ll2 : w1.cell? ⟨w.heap.size, 2, none⟩ = some (.string (natS l.1.2)) := (K.out.at_ 0 rfl).cell 2
  have ll3 : w1.cell? ⟨w.heap.size, 3, none⟩ = some (.bool false) := (K.out.at_ 0 rfl).cell 3
  have ll4 : w1.cell? ⟨w.heap.size, 4, none⟩ = some (.string (natS l.2.1)) := (K.out.at_ 0 rfl).cell 4
  have ll5 : w1.cell? ⟨w.heap.size, 5, none⟩ = some (.string (natS l.2.2)) := (K.out.at_ 0 rfl).cell 5
  have aa0 : w1.cell? ⟨w.heap.size + 1, 0, none⟩ = some (.bool false) := (K.out.at_ 1 rfl).cell 0
  have aa1 : w1.cell? ⟨w.heap.size + 1, 1, none⟩ = some (.string (natS a.1)) := (K.out.at_ 1 rfl).cell 1
  have aa2 : w1.cell? ⟨w.heap.size + 1, 2, none⟩ = some (.string (natS a.2)) := (K.out.at_ 1 rfl).cell 2
  cases b1
  · go_wp2_with fail
    go_ret
    exact ⟨by rw [hO.out]; rfl, hB.out⟩
  · go_wp2_with fail
    refine (hD.out _).mono ?_
    rintro en w2 ⟨rfl, hb⟩
    replace hB := Lib.hid (hB.out.trans (hb.mono hB.out.size))
    replace K := Lib.hid ((K.out.below hb))
    clear ll0 ll1 ll2 ll3 ll4 ll5 aa0 aa1 aa2 hb hD
    go_wp2_with fail
    go_ret
    exact ⟨by rw [hO.out]; rfl, hB.out⟩
set_option maxRecDepth 100000 in
set_option maxHeartbeats 2000000 in
theorem lparts_any (l : Lf) (a b : Nat × Nat) (w : World) (hl : AngL l) (ha : Ang a) (hb0 : Ang b) :
    Calls Tryz.prog 89 #[.agg #[.bool false, .string (natS l.1.1), .string (natS l.1.2), .bool false, .string (natS l.2.1), .string (natS l.2.2)], .agg #[.bool false, .string (natS a.1), .string (natS a.2)], .agg #[.bool false, .string (natS b.1), .string (natS b.2)]] w (RetVal (.bool (partsP l a b)) w) := by
  obtain ⟨e1, h1⟩ : ∃ c, c = endP l a := ⟨_, rfl⟩
  obtain ⟨e2, h2⟩ : ∃ c, c = endP l b := ⟨_, rfl⟩
  obtain ⟨i1, h3⟩ : ∃ c, c = withinP l a := ⟨_, rfl⟩
  obtain ⟨i2, h4⟩ : ∃ c, c = withinP l b := ⟨_, rfl⟩
  have hO : Hid (partsP l a b = (!e1 && (!e2 && (i1 != i2)))) := Lib.hid (by rw [h1, h2, h3, h4]; rfl)
  have hE1 := Lib.hid (fun W => lend_any l a W)
  have hE2 := Lib.hid (fun W => lend_any l b W)
  have hI1 := Lib.hid (fun W => lwithin_any l a W hl ha)
  have hI2 := Lib.hid (fun W => lwithin_any l b W hl hb0)
  rw [← h1] at hE1
  rw [← h2] at hE2
  rw [← h3] at hI1
  rw [← h4] at hI2
  have hBW : Below w.heap.size w (((w.alloc (.cells #[.bool false, .string (natS l.1.1), .string (natS l.1.2), .bool false, .string (natS l.2.1), .string (natS l.2.2)] 38)).alloc (.cells #[.bool false, .string (natS a.1), .string (natS a.2)] 26)).alloc (.cells #[.bool false, .string (natS b.1), .string (natS b.2)] 26)) := ((((Below.refl _ w).alloc (Nat.le_refl _) _).alloc (by simp) _).alloc (by simp; omega) _)
  have kk0 := (((Blk.new w 38 #[.bool false, .string (natS l.1.1), .string (natS l.1.2), .bool false, .string (natS l.2.1), .string (natS l.2.2)]).alloc (.cells #[.bool false, .string (natS a.1), .string (natS a.2)] 26)).alloc (.cells #[.bool false, .string (natS b.1), .string (natS b.2)] 26))
  have kk1 := ((Blk.new (w.alloc (.cells #[.bool false, .string (natS l.1.1), .string (natS l.1.2), .bool false, .string (natS l.2.1), .string (natS l.2.2)] 38)) 26 #[.bool false, .string (natS a.1), .string (natS a.2)]).alloc (.cells #[.bool false, .string (natS b.1), .string (natS b.2)] 26))
  simp only [World.size_alloc] at kk1
  have kk2 := (Blk.new ((w.alloc (.cells #[.bool false, .string (natS l.1.1), .string (natS l.1.2), .bool false, .string (natS l.2.1), .string (natS l.2.2)] 38)).alloc (.cells #[.bool false, .string (natS a.1), .string (natS a.2)] 26)) 26 #[.bool false, .string (natS b.1), .string (natS b.2)])
  simp only [World.size_alloc] at kk2
  have K := Lib.hid (((KeepT.one kk0).snoc kk1).snoc kk2)
  have hB := Lib.hid hBW
  clear hBW kk0 kk1 kk2
  clear h1 h2 h3 h4
  go_enter Tryz.func89, Tryz.ntmps89
  go_upto_region 1 with fail
  generalize hW : (((w.alloc (.cells #[.bool false, .string (natS l.1.1), .string (natS l.1.2), .bool false, .string (natS l.2.1), .string (natS l.2.2)] 38)).alloc (.cells #[.bool false, .string (natS a.1), .string (natS a.2)] 26)).alloc (.cells #[.bool false, .string (natS b.1), .string (natS b.2)] 26)) = w1 at hB K ⊢
  clear hW
  have ll0 : ∀ d os, (grow (redrawn w1 d) os).cell? ⟨w.heap.size, 0, none⟩ = some (.bool false) := cell_regrown ((K.out.at_ 0 rfl).cell 0)
  have ll1 : ∀ d os, (grow (redrawn w1 d) os).cell? ⟨w.heap.size, 1, none⟩ = some (.string (natS l.1.1)) := cell_regrown ((K.out.at_ 0 rfl).cell 1)
  have ll2 : ∀ d os, (grow (redrawn w1 d) os).cell? ⟨w.heap.size, 2, none⟩ = some (.string (natS l.1.2)) := cell_regrown ((K.out.at_ 0 rfl).cell 2)
  have ll3 : ∀ d os, (grow (redrawn w1 d) os).cell? ⟨w.heap.size, 3, none⟩ = some (.bool false) := cell_regrown ((K.out.at_ 0 rfl).cell 3)
  have ll4 : ∀ d os, (grow (redrawn w1 d) os).cell? ⟨w.heap.size, 4, none⟩ = some (.string (natS l.2.1)) := cell_regrown ((K.out.at_ 0 rfl).cell 4)
  have ll5 : ∀ d os, (grow (redrawn w1 d) os).cell? ⟨w.heap.size, 5, none⟩ = some (.string (natS l.2.2)) := cell_regrown ((K.out.at_ 0 rfl).cell 5)
  have aa0 : ∀ d os, (grow (redrawn w1 d) os).cell? ⟨w.heap.size + 1, 0, none⟩ = some (.bool false) := cell_regrown ((K.out.at_ 1 rfl).cell 0)
  have aa1 : ∀ d os, (grow (redrawn w1 d) os).cell? ⟨w.heap.size + 1, 1, none⟩ = some (.string (natS a.1)) := cell_regrown ((K.out.at_ 1 rfl).cell 1)
  have aa2 : ∀ d os, (grow (redrawn w1 d) os).cell? ⟨w.heap.size + 1, 2, none⟩ = some (.string (natS a.2)) := cell_regrown ((K.out.at_ 1 rfl).cell 2)
  have bb0 : ∀ d os, (grow (redrawn w1 d) os).cell? ⟨w.heap.size + 1 + 1, 0, none⟩ = some (.bool false) := cell_regrown ((K.out.at_ 2 rfl).cell 0)
  have bb1 : ∀ d os, (grow (redrawn w1 d) os).cell? ⟨w.heap.size + 1 + 1, 1, none⟩ = some (.string (natS b.1)) := cell_regrown ((K.out.at_ 2 rfl).cell 1)
  have bb2 : ∀ d os, (grow (redrawn w1 d) os).cell? ⟨w.heap.size + 1 + 1, 2, none⟩ = some (.string (natS b.2)) := cell_regrown ((K.out.at_ 2 rfl).cell 2)
  have cE1 : ∀ d os, Calls Tryz.prog 135 #[.agg #[.bool false, .string (natS l.1.1), .string (natS l.1.2), .bool false, .string (natS l.2.1), .string (natS l.2.2)], .agg #[.bool false, .string (natS a.1), .string (natS a.2)]] (grow (redrawn w1 d) os) fun e w'' => e = .returned (.bool e1) ∧ ∃ p : Regrown, w'' = grow (redrawn w1 p.d) p.os := fun d os => Calls.regrown_of (hE1.out _)
  have cE2 : ∀ d os, Calls Tryz.prog 135 #[.agg #[.bool false, .string (natS l.1.1), .string (natS l.1.2), .bool false, .string (natS l.2.1), .string (natS l.2.2)], .agg #[.bool false, .string (natS b.1), .string (natS b.2)]] (grow (redrawn w1 d) os) fun e w'' => e = .returned (.bool e2) ∧ ∃ p : Regrown, w'' = grow (redrawn w1 p.d) p.os := fun d os => Calls.regrown_of (hE2.out _)
  have cI1 : ∀ d os, Calls Tryz.prog 136 #[.agg #[.bool false, .string (natS l.1.1), .string (natS l.1.2), .bool false, .string (natS l.2.1), .string (natS l.2.2)], .agg #[.bool false, .string (natS a.1), .string (natS a.2)]] (grow (redrawn w1 d) os) fun e w'' => e = .returned (.bool i1) ∧ ∃ p : Regrown, w'' = grow (redrawn w1 p.d) p.os := fun d os => Calls.regrown_of (hI1.out _)
  have cI2 : ∀ d os, Calls Tryz.prog 136 #[.agg #[.bool false, .string (natS l.1.1), .string (natS l.1.2), .bool false, .string (natS l.2.1), .string (natS l.2.2)], .agg #[.bool false, .string (natS b.1), .string (natS b.2)]] (grow (redrawn w1 d) os) fun e w'' => e = .returned (.bool i2) ∧ ∃ p : Regrown, w'' = grow (redrawn w1 p.d) p.os := fun d os => Calls.regrown_of (hI2.out _)
  clear hE1 hE2 hI1 hI2
  cases e1 <;> cases e2
  case false.false =>
    cases i1 <;> cases i2
    all_goals
      refine wp_region_quiet_below (by kernel_rfl) (by kernel_rfl) ?_
      iterate 2 (quiet_step (fail))
      quiet_step (exact cE1 _ _)
      iterate 4 (quiet_step (fail))
      quiet_step (exact cE2 _ _)
      iterate 5 (quiet_step (fail))
      quiet_step (exact cI1 _ _)
      iterate 2 (quiet_step (fail))
      quiet_step (exact cI2 _ _)
      iterate 3 (quiet_step (fail))
      refine wpQuiet_nil ?_
      intro w2 hw'
      have hb : Below w1.heap.size w1 w2 := by
        obtain ⟨p, rfl⟩ := hw'
        exact below_regrown w1 p.d p.os
      replace hB := Lib.hid (hB.out.trans (hb.mono hB.out.size))
      clear ll0 ll1 ll2 ll3 ll4 ll5 aa0 aa1 aa2 bb0 bb1 bb2 hw' hb cE1 cE2 cI1 cI2 K
      go_wp2_with fail
      go_ret
      exact ⟨by rw [hO.out]; rfl, hB.out⟩
  case false.true =>
    refine wp_region_quiet_below (by kernel_rfl) (by kernel_rfl) ?_
    iterate 2 (quiet_step (fail))
    quiet_step (exact cE1 _ _)
    iterate 4 (quiet_step (fail))
    quiet_step (exact cE2 _ _)
    iterate 12 (quiet_step (fail))
    refine wpQuiet_nil ?_
    intro w2 hw'
    have hb : Below w1.heap.size w1 w2 := by
      obtain ⟨p, rfl⟩ := hw'
      exact below_regrown w1 p.d p.os
    replace hB := Lib.hid (hB.out.trans (hb.mono hB.out.size))
    clear ll0 ll1 ll2 ll3 ll4 ll5 aa0 aa1 aa2 bb0 bb1 bb2 hw' hb cE1 cE2 cI1 cI2 K
    go_wp2_with fail
    go_ret
    exact ⟨by rw [hO.out]; rfl, hB.out⟩
  case true.false =>
    refine wp_region_quiet_below (by kernel_rfl) (by kernel_rfl) ?_
    iterate 2 (quiet_step (fail))
    quiet_step (exact cE1 _ _)
    iterate 17 (quiet_step (fail))
    refine wpQuiet_nil ?_
    intro w2 hw'
    have hb : Below w1.heap.size w1 w2 := by
      obtain ⟨p, rfl⟩ := hw'
      exact below_regrown w1 p.d p.os
    replace hB := Lib.hid (hB.out.trans (hb.mono hB.out.size))
    clear ll0 ll1 ll2 ll3 ll4 ll5 aa0 aa1 aa2 bb0 bb1 bb2 hw' hb cE1 cE2 cI1 cI2 K
    go_wp2_with fail
    go_ret
    exact ⟨by rw [hO.out]; rfl, hB.out⟩
  case true.true =>
    refine wp_region_quiet_below (by kernel_rfl) (by kernel_rfl) ?_
    iterate 2 (quiet_step (fail))
    quiet_step (exact cE1 _ _)
    iterate 17 (quiet_step (fail))
    refine wpQuiet_nil ?_
    intro w2 hw'
    have hb : Below w1.heap.size w1 w2 := by
      obtain ⟨p, rfl⟩ := hw'
      exact below_regrown w1 p.d p.os
    replace hB := Lib.hid (hB.out.trans (hb.mono hB.out.size))
    clear ll0 ll1 ll2 ll3 ll4 ll5 aa0 aa1 aa2 bb0 bb1 bb2 hw' hb cE1 cE2 cI1 cI2 K
    go_wp2_with fail
    go_ret
    exact ⟨by rw [hO.out]; rfl, hB.out⟩
set_option maxRecDepth 100000 in
set_option maxHeartbeats 2000000 in
theorem lcrosses_any (l m : Lf) (w : World) (hl : AngL l) (hm : AngL m) :
    Calls Tryz.prog 66 #[.agg #[.bool false, .string (natS l.1.1), .string (natS l.1.2), .bool false, .string (natS l.2.1), .string (natS l.2.2)], .agg #[.bool false, .string (natS m.1.1), .string (natS m.1.2), .bool false, .string (natS m.2.1), .string (natS m.2.2)]] w (RetVal (.bool (partsP l m.1 m.2)) w) := by
  obtain ⟨r, hr⟩ : ∃ c, c = partsP l m.1 m.2 := ⟨_, rfl⟩
  have hC := Lib.hid (fun W => lparts_any l m.1 m.2 W hl hm.1 hm.2)
  rw [← hr] at hC ⊢
  have hBW : Below w.heap.size w ((w.alloc (.cells #[.bool false, .string (natS l.1.1), .string (natS l.1.2), .bool false, .string (natS l.2.1), .string (natS l.2.2)] 38)).alloc (.cells #[.bool false, .string (natS m.1.1), .string (natS m.1.2), .bool false, .string (natS m.2.1), .string (natS m.2.2)] 38)) := (((Below.refl _ w).alloc (Nat.le_refl _) _).alloc (by simp) _)
  have kk0 := ((Blk.new w 38 #[.bool false, .string (natS l.1.1), .string (natS l.1.2), .bool false, .string (natS l.2.1), .string (natS l.2.2)]).alloc (.cells #[.bool false, .string (natS m.1.1), .string (natS m.1.2), .bool false, .string (natS m.2.1), .string (natS m.2.2)] 38))
  have kk1 := (Blk.new (w.alloc (.cells #[.bool false, .string (natS l.1.1), .string (natS l.1.2), .bool false, .string (natS l.2.1), .string (natS l.2.2)] 38)) 38 #[.bool false, .string (natS m.1.1), .string (natS m.1.2), .bool false, .string (natS m.2.1), .string (natS m.2.2)])
  simp only [World.size_alloc] at kk1
  have K := Lib.hid ((KeepT.one kk0).snoc kk1)
  have hB := Lib.hid hBW
  clear hBW kk0 kk1
  clear hr
  go_enter Tryz.func66, Tryz.ntmps66
  go_wp2_with fail
  refine (hC.out _).mono ?_
  rintro en w1 ⟨rfl, hb⟩
  replace hB := Lib.hid (hB.out.trans (hb.mono hB.out.size))
  replace K := Lib.hid ((K.out.below hb))
  clear  hb hC
  go_wp2_with fail
  go_ret
  exact ⟨rfl, hB.out⟩
end Go.Proofs.YtoaggmegmgdgbaaGreat
