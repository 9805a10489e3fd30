/- filigreelaw22.ItinParts: the walk. -/
import Derived.Test.YtbddlbhanpjdnaaDoorItS
import Derived.Test.YtbddlbhanpjdnaaDoorPartP
import Derived.Test.YtbddlbhanpjdnaaDoorAngN
import Derived.Deep.CutRange
namespace Go.Proofs.YtbddlbhanpjdnaaDoor
open Go.RowKit Go.Sort

/-- Blocks that hold quotients. -/
def KeepR (W : World) (l : List (Nat × Array Value)) : Prop := ∀ (i : Nat) (x : Nat × Array Value), l[i]? = some x → Blk W x.1 25 x.2
section
variable {W W' : World} {l : List (Nat × Array Value)}
theorem KeepR.below (h : KeepR W l) (hb : Below W.heap.size W W') : KeepR W' l := fun i x hx => Blk.below (h i x hx) hb
theorem KeepR.alloc (h : KeepR W l) (o : Obj) : KeepR (W.alloc o) l := fun i x hx => Blk.alloc (h i x hx) o
theorem KeepR.drewN (h : KeepR W l) (n : Nat) : KeepR (W.drewN n) l := fun i x hx => Blk.drewN (h i x hx) n
theorem KeepR.at_ (h : KeepR W l) (i : Nat) {g : Nat} {cs : Array Value} (hx : l[i]? = some (g, cs)) : Blk W g 25 cs := h i _ hx
theorem KeepR.one {g : Nat} {cs : Array Value} (h : Blk W g 25 cs) : KeepR W [(g, cs)] := fun i x hx => by
  match i, hx with
  | 0, hx => cases hx; exact h
theorem KeepR.snoc (h : KeepR W l) {g : Nat} {cs : Array Value} (k : Blk W g 25 cs) : KeepR W (l ++ [(g, cs)]) := fun i x hx => by
  rcases Nat.lt_or_ge i l.length with hi | hi
  · rw [List.getElem?_append_left hi] at hx; exact h i x hx
  · rw [List.getElem?_append_right hi] at hx
    match i - l.length, hx with
    | 0, hx => cases hx; exact k
end
theorem neqS {a b : ByteArray} (h : a ≠ b) : (a.toList == b.toList) = false := by
  rw [beq_eq_false_iff_ne]
  exact fun e => h (ba_eqB e)
theorem symbolV_form (n1 : Bool) (a1 d1 : ByteArray) (n2 : Bool) (a2 d2 : ByteArray) (d : Int) : ∃ (x : Nat) (E : Int), symbolV n1 a1 d1 n2 a2 d2 d = .tuple #[.int .u8 (x : Int), .int .i64 E] ∧
    ((E = 0 ∧ mayE (okA n1 a1 d1) (okA n2 a2 d2) d = 0 ∧ x = symV (be (sl a1)) (be (sl d1)) (be (sl a2)) (be (sl d2)) d.toNat) ∨ ((E != 0) = true)) := by
  unfold symbolV
  split
  · rename_i h
    exact ⟨_, _, rfl, .inl ⟨rfl, h, rfl⟩⟩
  · rename_i h
    exact ⟨0, _, rfl, .inr (by rw [bne_iff_ne]; exact h)⟩
theorem bkN_fr {x y d k N D : Nat} (hd : 0 < d) (hy : 0 < y) (h : (N, D) = bkN x y d k) : N * (y * d) = (x + k * y) * D ∧ 0 < D ∧ Nat.gcd N D = 1 := by
  have hY0 : 0 < y * d := Nat.mul_pos hy hd
  unfold bkN at h
  injection h with h1 h2
  have f1 : N * (y * d) = (x + k * y) * D := by rw [h1, h2]; exact fr_low rfl hY0
  obtain ⟨g, hg⟩ : ∃ g, g = Nat.gcd (x + k * y) (y * d) := ⟨_, rfl⟩
  have hg0 : 0 < g := by rw [hg]; exact Nat.gcd_pos_of_pos_right _ hY0
  rw [← hg] at h1 h2
  refine ⟨f1, ?_, ?_⟩
  · rw [h2]; exact Nat.div_pos (Nat.le_of_dvd hY0 (by rw [hg]; exact Nat.gcd_dvd_right _ _)) hg0
  · rw [h1, h2, hg]; exact Nat.gcd_div_gcd_div_gcd_of_pos_right hY0
theorem bkN_lt {x y d k N D : Nat} (hk : k < d) (hxy : x < y) (h : (N, D) = bkN x y d k) : N < D := by
  obtain ⟨h1, h2, -⟩ := bkN_fr (by omega) (by omega) h
  have hY0 : 0 < y * d := Nat.mul_pos (by omega) (by omega)
  have h3 : x + k * y < y * d := by
    have := Nat.mul_le_mul_left y (show k + 1 ≤ d from hk)
    rw [Nat.mul_succ, Nat.mul_comm y k] at this
    omega
  have h4 : N * (y * d) < D * (y * d) := by
    rw [h1, Nat.mul_comm D]
    exact Nat.mul_lt_mul_of_pos_right h3 h2
  exact Nat.lt_of_mul_lt_mul_right h4

set_option maxRecDepth 100000 in
set_option maxHeartbeats 8000000 in
/-- filigreelaw22.ItinParts -/
theorem itinParts_any (n1 : Bool) (a1 d1 : ByteArray) (n2 : Bool) (a2 d2 : ByteArray) (n3 : Bool) (a3 d3 : ByteArray) (d : Int) (w : World)
    (z1 : a1.size ≤ 9223372036854775807) (y1 : d1.size ≤ 9223372036854775807) (z2 : a2.size ≤ 9223372036854775807) (y2 : d2.size ≤ 9223372036854775807) (z3 : a3.size ≤ 9223372036854775807) (y3 : d3.size ≤ 9223372036854775807) (_ : (Lit.int .i64 d).wf = true) :
    Calls Tryd.prog 11 #[.agg #[.bool n1, .string a1, .string d1], .agg #[.bool n2, .string a2, .string d2], .agg #[.bool n3, .string a3, .string d3], .int .i64 d] w (RetVal (.bool true) w) := by
  obtain ⟨x, E1, hv1, hc1⟩ := symbolV_form n1 a1 d1 n2 a2 d2 d
  obtain ⟨y, E2, hv2, hc2⟩ := symbolV_form n1 a1 d1 n3 a3 d3 d
  have hS1 := fun W => iSymbol_any n1 a1 d1 n2 a2 d2 d W z1 y1 z2 y2
  have hS2 := fun W => iSymbol_any n1 a1 d1 n3 a3 d3 d W z1 y1 z3 y3
  rw [hv1] at hS1
  rw [hv2] at hS2
  have hBk := fun W => aback_any n1 a1 d1 d W z1 y1
  have hT1 := fun W => turn1_any n2 a2 d2 d W z2 y2
  have hT2 := fun W => turn1_any n3 a3 d3 d W z3 y3
  have hBW : Below w.heap.size w (((w.alloc (.cells #[.bool n1, .string a1, .string d1] 25)).alloc (.cells #[.bool n2, .string a2, .string d2] 25)).alloc (.cells #[.bool n3, .string a3, .string d3] 25)) :=
    (((Below.refl _ w).alloc (Nat.le_refl _) _).alloc (by simp) _).alloc (by simp; omega) _
  have ka := ((Blk.new w 25 #[.bool n1, .string a1, .string d1]).alloc (.cells #[.bool n2, .string a2, .string d2] 25)).alloc (.cells #[.bool n3, .string a3, .string d3] 25)
  have kb := (Blk.new (w.alloc (.cells #[.bool n1, .string a1, .string d1] 25)) 25 #[.bool n2, .string a2, .string d2]).alloc (.cells #[.bool n3, .string a3, .string d3] 25)
  have kc := Blk.new ((w.alloc (.cells #[.bool n1, .string a1, .string d1] 25)).alloc (.cells #[.bool n2, .string a2, .string d2] 25)) 25 #[.bool n3, .string a3, .string d3]
  rw [World.size_alloc] at kb
  rw [World.size_alloc, World.size_alloc] at kc
  have K := Lib.hid (((KeepR.one ka).snoc kb).snoc kc)
  have hB := Lib.hid hBW
  replace hS1 := Lib.hid hS1
  replace hS2 := Lib.hid hS2
  replace hBk := Lib.hid hBk
  replace hT1 := Lib.hid hT1
  replace hT2 := Lib.hid hT2
  clear ka kb kc hBW hv1 hv2
  replace hc1 := Lib.hid hc1
  replace hc2 := Lib.hid hc2
  go_enter Tryd.func11, Tryd.ntmps11
  go_wp2_with fail
  refine (hS1.out _).mono ?_
  rintro en w1 ⟨rfl, hb⟩
  replace K := Lib.hid (K.out.below hb)
  replace hB := Lib.hid (hB.out.trans (hb.mono hB.out.size))
  clear hb
  have aa0 : w1.cell? ⟨w.heap.size, 0, none⟩ = some (.bool n1) := (K.out.at_ 0 rfl).cell 0
  have aa1 : w1.cell? ⟨w.heap.size, 1, none⟩ = some (.string a1) := (K.out.at_ 0 rfl).cell 1
  have aa2 : w1.cell? ⟨w.heap.size, 2, none⟩ = some (.string d1) := (K.out.at_ 0 rfl).cell 2
  have cc0 : w1.cell? ⟨w.heap.size + 2, 0, none⟩ = some (.bool n3) := (K.out.at_ 2 rfl).cell 0
  have cc1 : w1.cell? ⟨w.heap.size + 2, 1, none⟩ = some (.string a3) := (K.out.at_ 2 rfl).cell 1
  have cc2 : w1.cell? ⟨w.heap.size + 2, 2, none⟩ = some (.string d3) := (K.out.at_ 2 rfl).cell 2
  go_wp2_with fail
  refine (hS2.out _).mono ?_
  rintro en w2 ⟨rfl, hb⟩
  replace K := Lib.hid (K.out.below hb)
  replace hB := Lib.hid (hB.out.trans (hb.mono hB.out.size))
  clear hb aa0 aa1 aa2 cc0 cc1 cc2 hS1 hS2
  have hcase : (E1 != 0) = true ∨ (E1 = 0 ∧ (E2 != 0) = true) ∨ (E1 = 0 ∧ E2 = 0) := by
    rcases hc1.out with ⟨h1, -⟩ | h1
    · rcases hc2.out with ⟨h2, -⟩ | h2
      · exact .inr (.inr ⟨h1, h2⟩)
      · exact .inr (.inl ⟨h1, h2⟩)
    · exact .inl h1
  rcases hcase with h1 | ⟨rfl, h2⟩ | ⟨rfl, rfl⟩
  · clear hc1 hc2
    go_wp2_with fail
    refine (lives_any _).mono ?_
    rintro en wz ⟨rfl, hb⟩
    have hBz := Lib.hid (hB.out.trans (hb.mono hB.out.size))
    clear hb
    go_wp2_with fail
    go_ret
    exact ⟨rfl, hBz.out⟩
  · clear hc1 hc2
    go_wp2_with fail
    refine (lives_any _).mono ?_
    rintro en wz ⟨rfl, hb⟩
    have hBz := Lib.hid (hB.out.trans (hb.mono hB.out.size))
    clear hb
    go_wp2_with fail
    go_ret
    exact ⟨rfl, hBz.out⟩
  obtain ⟨hm1, hx⟩ : mayE (okA n1 a1 d1) (okA n2 a2 d2) d = 0 ∧ x = symV (be (sl a1)) (be (sl d1)) (be (sl a2)) (be (sl d2)) d.toNat := by
    rcases hc1.out with ⟨-, h⟩ | h
    · exact h
    · cases h
  obtain ⟨hm2, hy⟩ : mayE (okA n1 a1 d1) (okA n3 a3 d3) d = 0 ∧ y = symV (be (sl a1)) (be (sl d1)) (be (sl a3)) (be (sl d3)) d.toNat := by
    rcases hc2.out with ⟨-, h⟩ | h
    · exact h
    · cases h
  obtain ⟨ok1, ok2, hd1, hd2⟩ := mayE_ok hm1
  obtain ⟨-, ok3, -, -⟩ := mayE_ok hm2
  obtain ⟨dn, rfl⟩ : ∃ dn : Nat, d = (dn : Int) := ⟨d.toNat, by omega⟩
  have hrb : roundB (dn : Int) = true := roundB_iff.2 ⟨hd1, hd2⟩
  obtain ⟨rfl, -, -, hg1, hst, ht9⟩ := okA_spec ok1
  obtain ⟨rfl, ma2, md2, hg2, hpq, hq9⟩ := okA_spec ok2
  obtain ⟨rfl, ma3, md3, hg3, hpq', hq9'⟩ := okA_spec ok3
  have hE : abackE false a1 d1 (dn : Int) = backE (be (sl a1)) (be (sl d1)) dn := by rw [abackE, if_pos ok1, if_pos hrb, Int.toNat_natCast]
  have hR : abackR false a1 d1 (dn : Int) = backR (be (sl a1)) (be (sl d1)) dn := by rw [abackR, if_pos ok1, if_pos hrb, Int.toNat_natCast]
  have ht1 := turnsB_rd (n := 1) ok2 hrb
  have ht2 := turnsB_rd (n := 1) ok3 hrb
  have hinj := fun e => okA_inj ok2 ok3 e
  rw [Int.toNat_natCast] at hx hy
  obtain ⟨s, hs⟩ : ∃ s, s = be (sl a1) := ⟨_, rfl⟩
  obtain ⟨t, ht⟩ : ∃ s, s = be (sl d1) := ⟨_, rfl⟩
  obtain ⟨p, hp⟩ : ∃ s, s = be (sl a2) := ⟨_, rfl⟩
  obtain ⟨q, hq⟩ : ∃ s, s = be (sl d2) := ⟨_, rfl⟩
  obtain ⟨p', hp'⟩ : ∃ s, s = be (sl a3) := ⟨_, rfl⟩
  obtain ⟨q', hq'⟩ : ∃ s, s = be (sl d3) := ⟨_, rfl⟩
  have ea2 : a2 = natS p := by rw [hp, natS_be ma2]
  have ed2 : d2 = natS q := by rw [hq, natS_be md2]
  rw [← hs, ← ht, ← hp, ← hq] at hx
  rw [← hs, ← ht, ← hp', ← hq'] at hy
  rw [← hs, ← ht] at hE hR hg1 hst
  rw [← ht] at ht9
  rw [← hp, ← hq] at hg2 hpq ht1
  rw [← hq] at hq9
  rw [← hp', ← hq'] at hpq' ht2
  rw [← hq'] at hq9'
  rw [← hp, ← hq', ← hp', ← hq] at hinj
  obtain ⟨f, hf, hstar, hbet⟩ := part_facts (s := s) (t := t) (p := p) (q := q) (d := dn) (by omega) (by omega) (by omega) hst hpq
  rw [← hx] at hstar hbet
  have hone := part_one (s := s) (t := t) (p := p) (q := q) (d := dn) (p' := p') (q' := q') (by omega) (by omega) (by omega) (by omega) hpq hpq'
  rw [← hx, ← hy] at hone
  have hx9 : x < 256 := by
    rw [hx]
    rcases symV_or (s := s) (t := t) (p := p) (q := q) (d := dn) (by omega) with h | h <;> omega
  have ok2' : okA false (natS p) (natS q) = true := okA_natS hg2 hpq hq9
  have hdn2 : 2 ≤ dn := by omega
  have hdn64 : dn ≤ 64 := by omega
  have hq0 : 0 < q := by omega
  have ht0 : 0 < t := by omega
  have hB9 : Hid (∀ W, Calls Tryd.prog 34 #[.agg #[.bool false, .string a1, .string d1], .int .i64 (dn : Int)] W (RetRow 25 3 (backE s t dn) (backR s t dn).length (ratC (backR s t dn)) W)) := Lib.hid (fun W => by
    have := hBk.out W
    rw [hE, hR] at this
    exact this)
  replace hx := Lib.hid hx
  replace hy := Lib.hid hy
  replace hstar := Lib.hid hstar
  replace hbet := Lib.hid hbet
  replace hone := Lib.hid hone
  replace hinj := Lib.hid hinj
  replace ht1 := Lib.hid ht1
  replace ht2 := Lib.hid ht2
  replace hst := Lib.hid hst
  replace hpq := Lib.hid hpq
  replace hpq' := Lib.hid hpq'
  replace hg1 := Lib.hid hg1
  replace hg2 := Lib.hid hg2
  replace ok2' := Lib.hid ok2'
  replace ea2 := Lib.hid ea2
  replace ed2 := Lib.hid ed2
  replace ht9 := Lib.hid ht9
  replace hq9 := Lib.hid hq9
  clear hm1 hm2 hc1 hc2 ok1 ok2 ok3 hE hR hBk hrb hs ht hp hq hp' hq' ma2 md2 ma3 md3 hg3 hq9'
  have aa0 : w2.cell? ⟨w.heap.size, 0, none⟩ = some (.bool false) := (K.out.at_ 0 rfl).cell 0
  have aa1 : w2.cell? ⟨w.heap.size, 1, none⟩ = some (.string a1) := (K.out.at_ 0 rfl).cell 1
  have aa2 : w2.cell? ⟨w.heap.size, 2, none⟩ = some (.string d1) := (K.out.at_ 0 rfl).cell 2
  go_wp2_with fail
  refine (hB9.out _).mono ?_
  rintro en w3 ⟨vl, rfl, ol, hb⟩
  replace K := Lib.hid (K.out.below hb)
  replace hB := Lib.hid (hB.out.trans (hb.mono hB.out.size))
  clear hb aa0 aa1 aa2 hB9
  cases hbk : backOk s t dn
  · have hbe : backE s t dn = 210 := by rw [backE, hbk]; rfl
    rw [hbe]
    obtain ⟨A, c, rfl⟩ : ∃ A c, vl = .slice A (backR s t dn).length c := by
      rcases own_forms ol with ⟨e, e2⟩ | ⟨g, c, e⟩
      · exact ⟨none, 0, by rw [e, e2]⟩
      · exact ⟨_, _, e⟩
    clear hbe hbk ol
    go_wp2_with fail
    refine (lives_any _).mono ?_
    rintro en wz ⟨rfl, hb⟩
    have hBz := Lib.hid (hB.out.trans (hb.mono hB.out.size))
    clear hb
    go_wp2_with fail
    go_ret
    exact ⟨rfl, hBz.out⟩
  have hbe : backE s t dn = 0 := by rw [backE, hbk]; rfl
  have hbr : backR s t dn = backL s t dn := by rw [backR, hbk]; rfl
  have hden : ∀ k, k < dn → (bkN s t dn k).2 ≤ 2147483647 := fun k hk => by
    have h1 := List.all_eq_true.1 hbk _ (List.mem_of_getElem? (backL_get (x := s) (y := t) (d := dn) hk))
    exact of_decide_eq_true h1
  rw [hbe]
  rw [hbr, backL_len] at ol
  obtain ⟨gl, cl, rfl⟩ : ∃ g c, vl = .slice (some ⟨g, 0, none⟩) dn c := by
    rcases own_forms ol with ⟨e, e2⟩ | ⟨g, c, e⟩
    · omega
    · exact ⟨_, _, e⟩
  have hcl : dn ≤ cl := by
    rcases ol.2 with ⟨e, -⟩ | ⟨g, cap, cur, e, -, -, h, -⟩
    · cases e
    · injection e with _ _ e; rw [e]; exact h
  have ol3 := Lib.hid (own_le ol (show 0 ≤ _ from Nat.zero_le _))
  replace hden := Lib.hid hden
  have hdd : ((dn : Int) != (dn : Int)) = false := bne_self_eq_false _
  clear hbe hbr hbk ol
  go_wp2_with fail
  go_loopw [15, 16, 17, 18] (fun sv kv _ _ wr => ∃ i c : Nat, kv = .int .i64 (i : Int) ∧ i ≤ dn ∧ sv = .int .i64 (c : Int) ∧ c = (if x = 255 ∧ f < i then 1 else 0) ∧ wr.ownsRow 0 25 3 (.slice (some ⟨gl, 0, none⟩) dn cl) dn (ratC (backL s t dn)) ∧ KeepR wr [(w.heap.size, #[.bool false, .string a1, .string d1]), (w.heap.size + 1, #[.bool false, .string a2, .string d2]), (w.heap.size + 1 + 1, #[.bool false, .string a3, .string d3])] ∧ Below w.heap.size w wr) (fun _ kv _ _ _ => dn - (intOf kv).toNat)
  case atStart => exact ⟨0, 0, rfl, Nat.zero_le _, rfl, by rw [if_neg (by omega)], ol3.out, K.out, hB.out⟩
  case round =>
    clear ol3 K hB
    obtain ⟨i, c, rfl, hi, rfl, hc, ol, K, hB⟩ := hrel
    replace hc := Lib.hid hc
    replace K := Lib.hid K
    replace hB := Lib.hid hB
    replace ol := Lib.hid ol
    by_cases hlo : i < dn
    · have hloI : (i : Int) < (dn : Int) := by omega
      obtain ⟨⟨N, D⟩, hND⟩ : ∃ m, m = bkN s t dn i := ⟨_, rfl⟩
      obtain ⟨k1, hk1⟩ : ∃ k, k = i + dn := ⟨_, rfl⟩
      obtain ⟨k2, hk2⟩ : ∃ k, k = k1 - 1 := ⟨_, rfl⟩
      obtain ⟨kp, hkp⟩ : ∃ k, k = k2 % dn := ⟨_, rfl⟩
      have hkpd : kp < dn := by rw [hkp]; exact Nat.mod_lt _ (by omega)
      obtain ⟨⟨N', D'⟩, hND'⟩ : ∃ m, m = bkN s t dn kp := ⟨_, rfl⟩
      obtain ⟨r1, r2, r3⟩ := bkN_fr (by omega) ht0 hND
      obtain ⟨r1', r2', r3'⟩ := bkN_fr (by omega) ht0 hND'
      have r4 := bkN_lt hlo hst.out hND
      have r4' := bkN_lt hkpd hst.out hND'
      have r5 : D ≤ 2147483647 := by have := hden.out i hlo; rw [← hND] at this; exact this
      have r5' : D' ≤ 2147483647 := by have := hden.out kp hkpd; rw [← hND'] at this; exact this
      have okN := okA_natS r3 r4 r5
      have okN' := okA_natS r3' r4' r5'
      have hQ0 : 0 < t * dn * q := Nat.mul_pos (Nat.mul_pos ht0 (by omega)) hq0
      have f1 : N * (t * dn * q) = ((s + i * t) * q) * D := by rw [← Nat.mul_assoc, r1, Nat.mul_right_comm]
      have f1' : N' * (t * dn * q) = ((s + kp * t) * q) * D' := by rw [← Nat.mul_assoc, r1', Nat.mul_right_comm]
      have f2 : p * (t * dn * q) = (dn * p * t) * q := by ac_rfl
      have heq : (natS N = a2 ∧ natS D = d2) ↔ (i = f ∧ x = 255) := by
        rw [ea2.out, ed2.out, ← hstar.out i, ← fr_eq f1 f2 r2 hq0 hQ0]
        constructor
        · rintro ⟨e1, e2⟩
          rw [natS_inj e1, natS_inj e2]
        · intro e
          have := okA_inj okN ok2'.out (by rw [be_natS, be_natS, be_natS, be_natS]; exact e)
          exact this.2
      have hbv : betweenV false (natS N') (natS D') false a2 d2 false (natS N) (natS D) = .tuple #[.bool (decide (x ≠ 255) && decide (x = i)), .int .i64 0] := by
        have e := hbet.out i hlo
        rw [← hk1, ← hk2, ← hkp] at e
        rw [ea2.out, ed2.out, betweenV, okN, okN', ok2'.out, if_pos (by rfl), be_natS, be_natS, be_natS, be_natS, be_natS, be_natS, betw_N f1' f2 f1 r2' hq0 r2 hQ0, e]
      have hbc := fun W => between_any false (natS N') (natS D') false a2 d2 false (natS N) (natS D) W (okA_size okN').1 (okA_size okN').2 (by rw [ea2.out]; exact (okA_size ok2'.out).1) (by rw [ed2.out]; exact (okA_size ok2'.out).2) (okA_size okN).1 (okA_size okN).2
      obtain ⟨bb, hbb⟩ : ∃ b, b = (decide (x ≠ 255) && decide (x = i)) := ⟨_, rfl⟩
      rw [hbv, ← hbb] at hbc
      replace hbb := Lib.hid hbb
      obtain ⟨g0, g1, g2⟩ := ratC_get _ i (N, D) (by rw [backL_get hlo, hND])
      obtain ⟨g0', g1', g2'⟩ := ratC_get _ kp (N', D') (by rw [backL_get hkpd, hND'])
      obtain ⟨sN, hsN⟩ : ∃ a, a = natS N := ⟨_, rfl⟩
      obtain ⟨sD, hsD⟩ : ∃ a, a = natS D := ⟨_, rfl⟩
      obtain ⟨sN', hsN'⟩ : ∃ a, a = natS N' := ⟨_, rfl⟩
      obtain ⟨sD', hsD'⟩ : ∃ a, a = natS D' := ⟨_, rfl⟩
      simp only at g1 g2 g1' g2'
      rw [← hsN, ← hsD] at heq
      rw [← hsN, ← hsD, ← hsN', ← hsD'] at hbc
      rw [← hsN] at g1
      rw [← hsD] at g2
      rw [← hsN'] at g1'
      rw [← hsD'] at g2'
      have hin : ∀ (W : World), W.ownsRow 0 25 3 (.slice (some ⟨gl, 0, none⟩) dn cl) dn (ratC (backL s t dn)) → (W.cell? ⟨gl, i * 3, none⟩ = some (.bool false) ∧ W.cell? ⟨gl, i * 3 + 1, none⟩ = some (.string sN) ∧ W.cell? ⟨gl, i * 3 + 2, none⟩ = some (.string sD)) ∧ (W.cell? ⟨gl, kp * 3, none⟩ = some (.bool false) ∧ W.cell? ⟨gl, kp * 3 + 1, none⟩ = some (.string sN') ∧ W.cell? ⟨gl, kp * 3 + 2, none⟩ = some (.string sD')) := fun W ho =>
        ⟨⟨by rw [ho.cellAt _ (by omega)]; exact g0, by rw [ho.cellAt _ (by omega)]; exact g1, by rw [ho.cellAt _ (by omega)]; exact g2⟩, by rw [ho.cellAt _ (by omega)]; exact g0', by rw [ho.cellAt _ (by omega)]; exact g1', by rw [ho.cellAt _ (by omega)]; exact g2'⟩
      obtain ⟨⟨c0, c1, c2⟩, -⟩ := hin wr ol.out
      have bb0 : wr.cell? ⟨w.heap.size + 1, 0, none⟩ = some (.bool false) := (K.out.at_ 1 rfl).cell 0
      have bb1 : wr.cell? ⟨w.heap.size + 1, 1, none⟩ = some (.string a2) := (K.out.at_ 1 rfl).cell 1
      have bb2 : wr.cell? ⟨w.heap.size + 1, 2, none⟩ = some (.string d2) := (K.out.at_ 1 rfl).cell 2
      replace hin := Lib.hid hin
      replace hbc := Lib.hid hbc
      replace hND := Lib.hid hND
      replace hND' := Lib.hid hND'
      replace hk1 := Lib.hid hk1
      replace hk2 := Lib.hid hk2
      replace hkp := Lib.hid hkp
      replace hsN := Lib.hid hsN
      replace hsD := Lib.hid hsD
      replace hsN' := Lib.hid hsN'
      replace hsD' := Lib.hid hsD'
      replace heq := Lib.hid heq
      clear r1 r2 r3 r4 r5 r1' r2' r3' r4' r5' okN okN' hQ0 f1 f1' f2 hbv g0 g1 g2 g0' g1' g2'
      go_upto_region 12 with fail
      obtain ⟨bq, hbq⟩ : ∃ b, b = decide (i = f ∧ x = 255) := ⟨_, rfl⟩
      go_cut [73] from 63 to 107 (fun sv wx => sv = .bool bq ∧ ∃ nd, wx = wr.drewN nd)
      case first =>
        by_cases he : sN = a2 ∧ sD = d2
        · obtain rfl : bq = true := by rw [hbq]; exact decide_eq_true (heq.out.1 he)
          obtain ⟨rfl, rfl⟩ := he
          have b1 : (sN.toList == sN.toList) = true := beq_self_eq_true _
          have b2 : (sD.toList == sD.toList) = true := beq_self_eq_true _
          replace hbq := Lib.hid hbq
          go_quiet (fail)
          go_wp2_with fail
          go_meet
          case rel => exact ⟨rfl, nq, rfl⟩
        · obtain rfl : bq = false := by rw [hbq]; exact decide_eq_false (fun h => he (heq.out.2 h))
          replace hbq := Lib.hid hbq
          by_cases e1 : sN = a2
          · have b2 := neqS (a := sD) (b := d2) (fun e => he ⟨e1, e⟩)
            subst e1
            have b1 : (sN.toList == sN.toList) = true := beq_self_eq_true _
            clear he
            go_quiet (fail)
            go_wp2_with fail
            go_meet
            case rel => exact ⟨rfl, nq, rfl⟩
          · have b1 := neqS e1
            clear he e1
            go_quiet (fail)
            go_wp2_with fail
            go_meet
            case rel => exact ⟨rfl, nq, rfl⟩
      obtain ⟨rfl, nd, rfl⟩ := hcut
      go_upto_if 73 with fail
      go_cut [15] from 63 to 107 (fun sv wx => ∃ c2 : Nat, sv = .int .i64 (c2 : Int) ∧ c2 = (if x = 255 ∧ f < i + 1 then 1 else 0) ∧ wx = wr.drewN nd)
      case first =>
        have hc9 : c ≤ 1 := by rw [hc.out]; split <;> omega
        cases bq
        · have hcn : Hid (c = if x = 255 ∧ f < i + 1 then 1 else 0) := Lib.hid (by
            have hne : ¬ (i = f ∧ x = 255) := of_decide_eq_false hbq.symm
            have h := hc.out
            by_cases hh : x = 255 ∧ f < i
            · rw [if_pos hh] at h; rw [if_pos ⟨hh.1, by omega⟩]; exact h
            · rw [if_neg hh] at h; rw [if_neg (fun h2 => hh ⟨h2.1, by have : ¬ i = f := fun e => hne ⟨e, h2.1⟩; omega⟩)]; exact h)
          replace hbq := Lib.hid hbq
          go_wp2_with fail
          go_meet
          case rel => exact ⟨c, rfl, hcn.out, rfl⟩
        · have hcn : Hid (c + 1 = if x = 255 ∧ f < i + 1 then 1 else 0) := Lib.hid (by
            obtain ⟨e1, e2⟩ : i = f ∧ x = 255 := of_decide_eq_true hbq.symm
            have h := hc.out
            rw [if_neg (fun h2 => by omega)] at h
            rw [if_pos ⟨e2, by omega⟩, h])
          replace hbq := Lib.hid hbq
          go_wp2_with fail
          go_meet
          case rel => exact ⟨c + 1, by go_num, hcn.out, rfl⟩
      obtain ⟨c3, rfl, hc3, rfl⟩ := hcut
      replace hbq := Lib.hid hbq
      replace hc3 := Lib.hid hc3
      clear c0 c1 c2 bb0 bb1 bb2
      have olD : (wr.drewN nd).ownsRow 0 25 3 (.slice (some ⟨gl, 0, none⟩) dn cl) dn (ratC (backL s t dn)) := own_drewN ol.out nd
      have KD := K.out.drewN nd
      have hBD := below_drewN hB.out nd
      obtain ⟨X, hX⟩ : ∃ X, X = wr.drewN nd := ⟨_, rfl⟩
      rw [← hX] at olD KD hBD ⊢
      clear hX
      have mm : ∀ d os, _ := fun d os => hin.out (grow (redrawn X d) os) (own_below olD (below_regrown X d os))
      have u0 : ∀ d os, (grow (redrawn X d) os).cell? ⟨gl, i * 3, none⟩ = some (.bool false) := fun d os => (mm d os).1.1
      have u1 : ∀ d os, (grow (redrawn X d) os).cell? ⟨gl, i * 3 + 1, none⟩ = some (.string sN) := fun d os => (mm d os).1.2.1
      have u2 : ∀ d os, (grow (redrawn X d) os).cell? ⟨gl, i * 3 + 2, none⟩ = some (.string sD) := fun d os => (mm d os).1.2.2
      have u3 : ∀ d os, (grow (redrawn X d) os).cell? ⟨gl, kp * 3, none⟩ = some (.bool false) := fun d os => (mm d os).2.1
      have u4 : ∀ d os, (grow (redrawn X d) os).cell? ⟨gl, kp * 3 + 1, none⟩ = some (.string sN') := fun d os => (mm d os).2.2.1
      have u5 : ∀ d os, (grow (redrawn X d) os).cell? ⟨gl, kp * 3 + 2, none⟩ = some (.string sD') := fun d os => (mm d os).2.2.2
      have t0 : ∀ d os, (grow (redrawn X d) os).cell? ⟨w.heap.size + 1, 0, none⟩ = some (.bool false) := cell_regrown ((KD.at_ 1 rfl).cell 0)
      have t1 : ∀ d os, (grow (redrawn X d) os).cell? ⟨w.heap.size + 1, 1, none⟩ = some (.string a2) := cell_regrown ((KD.at_ 1 rfl).cell 1)
      have t2 : ∀ d os, (grow (redrawn X d) os).cell? ⟨w.heap.size + 1, 2, none⟩ = some (.string d2) := cell_regrown ((KD.at_ 1 rfl).cell 2)
      have cc : ∀ d os, Calls Tryd.prog 35 #[.agg #[.bool false, .string sN', .string sD'], .agg #[.bool false, .string a2, .string d2], .agg #[.bool false, .string sN, .string sD]] (grow (redrawn X d) os) fun e w'' => e = .returned (.tuple #[.bool bb, .int .i64 0]) ∧ ∃ p : Regrown, w'' = grow (redrawn X p.d) p.os :=
        fun d os => Calls.regrown_of (hbc.out _)
      have hw1 : IntKind.i64.wrap ((i : Int) + (dn : Int)) = (k1 : Int) := by have := hk1.out; rw [IntKind.wrap_i64]; omega
      have hw2 : IntKind.i64.wrap ((k1 : Int) - 1) = (k2 : Int) := by have := hk1.out; have := hk2.out; rw [IntKind.wrap_i64]; omega
      have hw3 : (k2 : Int).tmod (dn : Int) = (kp : Int) := by rw [hkp.out]; exact tmod_nat _ _
      have hdn0 : ¬ (dn : Int) = 0 := by omega
      have hdnN : ¬ dn = 0 := by omega
      have hkpI : (kp : Int) < (dn : Int) := by omega
      replace olD := Lib.hid olD
      replace KD := Lib.hid KD
      replace hBD := Lib.hid hBD
      clear mm ol K hB
      go_upto_region 14 with fail
      refine wp_region_quiet_below (by kernel_rfl) (by kernel_rfl) ?_
      iterate 14 (quiet_step (fail))
      quiet_step (exact cc _ _)
      iterate 5 (quiet_step (fail))
      refine wpQuiet_nil ?_
      intro q5 hw'
      have hb : Below X.heap.size X q5 := by
        obtain ⟨p, rfl⟩ := hw'
        exact below_regrown X p.d p.os
      have ol := Lib.hid (own_below olD.out hb)
      have K := Lib.hid (KD.out.below hb)
      have hB := Lib.hid (hBD.out.trans (hb.mono hBD.out.size))
      clear hw' cc u0 u1 u2 u3 u4 u5 t0 t1 t2 hb olD KD hBD hw1 hw2 hw3
      by_cases hx1 : x = 255
      · have e1 : ((x : Int) == 255) = true := by rw [beq_iff_eq]; omega
        have e1N : ((x : Int) != 255) = false := by rw [bne, e1]; rfl
        obtain rfl : bb = false := by rw [hbb.out, hx1]; rfl
        go_wp2_with fail
        go_roundw
        case rel => exact ⟨i + 1, c3, by go_num, by omega, rfl, hc3.out, ol.out, K.out, hB.out⟩
        case measure => simp [intOf]; omega
      · have e1 : ((x : Int) == 255) = false := by rw [beq_eq_false_iff_ne]; omega
        have e1N : ((x : Int) != 255) = true := by rw [bne, e1]; rfl
        by_cases hx2 : x = i
        · have e2 : ((x : Int) == (i : Int)) = true := by rw [beq_iff_eq]; omega
          obtain rfl : bb = true := by rw [hbb.out, decide_eq_true hx1, decide_eq_true hx2]; rfl
          clear hx2
          go_wp2_with fail
          go_roundw
          case rel => exact ⟨i + 1, c3, by go_num, by omega, rfl, hc3.out, ol.out, K.out, hB.out⟩
          case measure => simp [intOf]; omega
        · have e2 : ((x : Int) == (i : Int)) = false := by rw [beq_eq_false_iff_ne]; omega
          obtain rfl : bb = false := by rw [hbb.out, decide_eq_true hx1, decide_eq_false hx2]; rfl
          go_wp2_with fail
          go_roundw
          case rel => exact ⟨i + 1, c3, by go_num, by omega, rfl, hc3.out, ol.out, K.out, hB.out⟩
          case measure => simp [intOf]; omega
    · obtain rfl : i = dn := by omega
      have hloI : ¬ (i : Int) < (i : Int) := by omega
      have htx : ∀ p q : Nat, rd (turnX p q i 1) q = rd (i * p % q) q := fun p q => by rw [turnX_eq, Nat.pow_one, Nat.mul_comm]
      have ht1' := ht1.out
      have ht2' := ht2.out
      rw [htx] at ht1' ht2'
      have hon2 := hone.out
      obtain ⟨⟨u1, u2⟩, hu⟩ : ∃ m, m = rd (i * p % q) q := ⟨_, rfl⟩
      obtain ⟨⟨v1, v2⟩, hv⟩ : ∃ m, m = rd (i * p' % q') q' := ⟨_, rfl⟩
      rw [← hu] at ht1' hon2
      rw [← hv] at ht2' hon2
      obtain ⟨sU, hsU⟩ : ∃ a, a = natS u1 := ⟨_, rfl⟩
      obtain ⟨sV, hsV⟩ : ∃ a, a = natS u2 := ⟨_, rfl⟩
      obtain ⟨sX, hsX⟩ : ∃ a, a = natS v1 := ⟨_, rfl⟩
      obtain ⟨sY, hsY⟩ : ∃ a, a = natS v2 := ⟨_, rfl⟩
      simp only at ht1' ht2'
      rw [← hsU, ← hsV] at ht1'
      rw [← hsX, ← hsY] at ht2'
      have hlast : Hid (x = y → x ≠ 255 → sU = sX ∧ sV = sY → a2 = a3 ∧ d2 = d3) := Lib.hid (fun e1 e2 ⟨e3, e4⟩ => by
        have h1 : u1 = v1 := natS_inj (by rw [← hsU, ← hsX, e3])
        have h2 : u2 = v2 := natS_inj (by rw [← hsV, ← hsY, e4])
        exact (hinj.out (hon2 e1 e2 (by rw [h1, h2]))).2)
      have hU1 : Hid (∀ W, Calls Tryd.prog 27 #[.agg #[.bool false, .string a2, .string d2], .int .i64 (i : Int)] W (RetVal (.tuple #[.agg #[.bool false, .string sU, .string sV], .int .i64 0]) W)) := Lib.hid (fun W => by rw [← ht1']; exact hT1.out W)
      have hU2 : Hid (∀ W, Calls Tryd.prog 27 #[.agg #[.bool false, .string a3, .string d3], .int .i64 (i : Int)] W (RetVal (.tuple #[.agg #[.bool false, .string sX, .string sY], .int .i64 0]) W)) := Lib.hid (fun W => by rw [← ht2']; exact hT2.out W)
      have hcase : (((x : Int) == 255) = true ∧ c = 1) ∨ (((x : Int) == 255) = false ∧ c = 0) := by
        by_cases hx1 : x = 255
        · exact .inl ⟨by rw [beq_iff_eq]; omega, by rw [hc.out, if_pos ⟨hx1, hf⟩]⟩
        · exact .inr ⟨by rw [beq_eq_false_iff_ne]; omega, by rw [hc.out, if_neg (fun h => hx1 h.1)]⟩
      have bb0 : wr.cell? ⟨w.heap.size + 1, 0, none⟩ = some (.bool false) := (K.out.at_ 1 rfl).cell 0
      have bb1 : wr.cell? ⟨w.heap.size + 1, 1, none⟩ = some (.string a2) := (K.out.at_ 1 rfl).cell 1
      have bb2 : wr.cell? ⟨w.heap.size + 1, 2, none⟩ = some (.string d2) := (K.out.at_ 1 rfl).cell 2
      clear ht1' ht2' hon2 hu hv hsU hsV hsX hsY htx ol
      rcases hcase with ⟨hxs, rfl⟩ | ⟨hxs, rfl⟩
      all_goals
        go_wp2_with fail
        refine (hU1.out _).mono ?_
        rintro en w4 ⟨rfl, hb⟩
        have hBn := hB.out.trans (hb.mono hB.out.size)
        replace hB := Lib.hid (hBn.alloc hBn.size (.cells #[.bool false, .string sU, .string sV] 25))
        replace K := Lib.hid (((K.out.below hb).alloc (.cells #[.bool false, .string sU, .string sV] 25)).snoc (Blk.new w4 25 #[.bool false, .string sU, .string sV]))
        clear hb hBn bb0 bb1 bb2
        go_upto_region 20 with fail
        generalize hW : w4.alloc (.cells #[.bool false, .string sU, .string sV] 25) = w5 at hB K ⊢
        generalize hg : w4.heap.size = gp at K ⊢
        clear hW hg w4
        have cc0 : w5.cell? ⟨w.heap.size + 2, 0, none⟩ = some (.bool false) := (K.out.at_ 2 rfl).cell 0
        have cc1 : w5.cell? ⟨w.heap.size + 2, 1, none⟩ = some (.string a3) := (K.out.at_ 2 rfl).cell 1
        have cc2 : w5.cell? ⟨w.heap.size + 2, 2, none⟩ = some (.string d3) := (K.out.at_ 2 rfl).cell 2
        go_wp2_with fail
        refine (hU2.out _).mono ?_
        rintro en w6 ⟨rfl, hb⟩
        have hBn := hB.out.trans (hb.mono hB.out.size)
        replace hB := Lib.hid (hBn.alloc hBn.size (.cells #[.bool false, .string sX, .string sY] 25))
        replace K := Lib.hid (((K.out.below hb).alloc (.cells #[.bool false, .string sX, .string sY] 25)).snoc (Blk.new w6 25 #[.bool false, .string sX, .string sY]))
        clear hb hBn cc0 cc1 cc2
        go_upto_region 21 with fail
        generalize hW : w6.alloc (.cells #[.bool false, .string sX, .string sY] 25) = w7 at hB K ⊢
        generalize hg : w6.heap.size = gq at K ⊢
        clear hW hg w6
        have bb0 : w7.cell? ⟨w.heap.size + 1, 0, none⟩ = some (.bool false) := (K.out.at_ 1 rfl).cell 0
        have bb1 : w7.cell? ⟨w.heap.size + 1, 1, none⟩ = some (.string a2) := (K.out.at_ 1 rfl).cell 1
        have bb2 : w7.cell? ⟨w.heap.size + 1, 2, none⟩ = some (.string d2) := (K.out.at_ 1 rfl).cell 2
        have cc0 : w7.cell? ⟨w.heap.size + 2, 0, none⟩ = some (.bool false) := (K.out.at_ 2 rfl).cell 0
        have cc1 : w7.cell? ⟨w.heap.size + 2, 1, none⟩ = some (.string a3) := (K.out.at_ 2 rfl).cell 1
        have cc2 : w7.cell? ⟨w.heap.size + 2, 2, none⟩ = some (.string d3) := (K.out.at_ 2 rfl).cell 2
        have p0 : w7.cell? ⟨gp, 0, none⟩ = some (.bool false) := (K.out.at_ 3 rfl).cell 0
        have p1 : w7.cell? ⟨gp, 1, none⟩ = some (.string sU) := (K.out.at_ 3 rfl).cell 1
        have p2 : w7.cell? ⟨gp, 2, none⟩ = some (.string sV) := (K.out.at_ 3 rfl).cell 2
        have q0 : w7.cell? ⟨gq, 0, none⟩ = some (.bool false) := (K.out.at_ 4 rfl).cell 0
        have q1 : w7.cell? ⟨gq, 1, none⟩ = some (.string sX) := (K.out.at_ 4 rfl).cell 1
        have q2 : w7.cell? ⟨gq, 2, none⟩ = some (.string sY) := (K.out.at_ 4 rfl).cell 2
        by_cases hxy : x = y
        · have hxyI : ((x : Int) == (y : Int)) = true := by rw [beq_iff_eq]; omega
          have hxyN : ((x : Int) != (y : Int)) = false := by rw [bne, hxyI]; rfl
          by_cases hx1 : x = 255
          · first
              | exact absurd (show ((x : Int) == 255) = true by rw [beq_iff_eq]; omega) (by rw [hxs]; decide)
              | (clear hxy hx1; go_wp2_with fail; refine (lives_any _).mono ?_; rintro en wz ⟨rfl, hb⟩; have hBz := Lib.hid (hB.out.trans (hb.mono hB.out.size)); clear hb; go_wp2_with fail; go_ret; exact ⟨rfl, hBz.out⟩)
          · by_cases hss : sU = sX ∧ sV = sY
            · obtain ⟨e3, e4⟩ := hlast.out hxy hx1 hss
              obtain ⟨rfl, rfl⟩ := hss
              subst e3 e4
              have b1 : (sU.toList == sU.toList) = true := beq_self_eq_true _
              have b2 : (sV.toList == sV.toList) = true := beq_self_eq_true _
              have b3 : (a2.toList == a2.toList) = true := beq_self_eq_true _
              have b4 : (d2.toList == d2.toList) = true := beq_self_eq_true _
              clear hxy
              go_wp2_with fail
              refine (lives_any _).mono ?_
              rintro en wz ⟨rfl, hb⟩
              have hBz := Lib.hid (hB.out.trans (hb.mono hB.out.size))
              clear hb
              go_wp2_with fail
              go_ret
              exact ⟨rfl, hBz.out⟩
            · by_cases e3 : sU = sX
              · have b2 := neqS (a := sV) (b := sY) (fun e => hss ⟨e3, e⟩)
                subst e3
                have b1 : (sU.toList == sU.toList) = true := beq_self_eq_true _
                clear hxy hss
                go_wp2_with fail
                refine (lives_any _).mono ?_
                rintro en wz ⟨rfl, hb⟩
                have hBz := Lib.hid (hB.out.trans (hb.mono hB.out.size))
                clear hb
                go_wp2_with fail
                go_ret
                exact ⟨rfl, hBz.out⟩
              · have b1 := neqS e3
                clear hxy hss e3
                go_wp2_with fail
                refine (lives_any _).mono ?_
                rintro en wz ⟨rfl, hb⟩
                have hBz := Lib.hid (hB.out.trans (hb.mono hB.out.size))
                clear hb
                go_wp2_with fail
                go_ret
                exact ⟨rfl, hBz.out⟩
        · have hxyI : ((x : Int) == (y : Int)) = false := by rw [beq_eq_false_iff_ne]; omega
          have hxyN : ((x : Int) != (y : Int)) = true := by rw [bne, hxyI]; rfl
          clear hxy
          go_wp2_with fail
          refine (lives_any _).mono ?_
          rintro en wz ⟨rfl, hb⟩
          have hBz := Lib.hid (hB.out.trans (hb.mono hB.out.size))
          clear hb
          go_wp2_with fail
          go_ret
          exact ⟨rfl, hBz.out⟩
end Go.Proofs.YtbddlbhanpjdnaaDoor
