/- Counts of angles: wide.NewInt(-1), digits.size, Bytes; angle.moebius. · Counts of angles: angle.count, angle.Count. · Counts of angles: angle.All. -/
import Derived.Test.YtciafmnideihjaaSpellA
import Derived.Test.YtciafmnideihjaaMoe
import Derived.Test.YtciafmnideihjaaNatC
import Derived.Test.YtciafmnideihjaaBackP
import Derived.Deep.CutBlock
namespace Go.Proofs.Ytciafmnideihjaa
open Go.RowKit Go.Sort

/-- The sign set. -/
theorem Big.minus {w : World} {p o x : Nat} (h : Big w p o (x : Int)) (hx : 0 < x) : Big (w.setCell ⟨p, o, none⟩ (.bool true)) p o (-(x : Int)) := by
  obtain ⟨cs, T, v, h1, h2, h3, h4, h5⟩ := h
  have hlt := lt_of_size h3
  refine ⟨_, T, v, heap_setCell_same w p o cs T _ h1, h2, ?_, ?_, ?_⟩
  · rw [Array.getElem?_setIfInBounds_self_of_lt hlt]
    simp
    omega
  · rw [Array.getElem?_setIfInBounds_ne (by omega)]
    exact h4
  · rw [Int.natAbs_neg]
    exact Rd.setFar h5 (p := ⟨p, o, none⟩) h1 (Ne.symm h2) _

set_option maxRecDepth 100000 in
set_option maxHeartbeats 400000 in
/-- NewInt(-1) -/
theorem newIntM_any (w : World) : Calls Try.prog 67 #[.int .i64 (-1)] w (RetNew (-1) w) := by
  go_enter Try.func67, Try.ntmps67
  go_wp2_with fail
  refine (setUint64_any _ 0 18446744073709551615 _ (Big.new w).slot (by omega)).mono ?_
  rintro e w2 ⟨rfl, hb, hg⟩
  have hB := Lib.hid (below_gb ((Below.refl _ w).alloc (Nat.le_refl _) _) hg (Nat.le_refl _) (by simp))
  replace hb := Lib.hid hb
  clear hg
  go_wp2_with fail
  refine (setUint64_any _ 0 1 _ hb.out.slot (by omega)).mono ?_
  rintro e w3 ⟨rfl, hb3, hg⟩
  have hB3 := Lib.hid (below_gb hB.out hg (Nat.le_refl _) hB.out.size)
  obtain ⟨⟨u0, c0⟩, -, f0, -⟩ := hb3.slot.cells
  replace hb3 := Lib.hid hb3
  clear hg hb hB
  go_wp2_with fail
  go_ret
  exact ⟨w.heap.size, rfl, Nat.le_refl _, hb3.out.minus (x := 1) (by omega), hB3.out.setCell (Nat.le_refl _) _⟩

/-- NewInt of 0, 1, -1. -/
theorem newIntS_any (x : Int) (w : World) (hx : x = 0 ∨ x = 1 ∨ x = -1) : Calls Try.prog 67 #[.int .i64 x] w (RetNew x w) := by
  rcases hx with rfl | rfl | rfl
  · exact newInt_any 0 w (by omega)
  · exact newInt_any 1 w (by omega)
  · exact newIntM_any w

set_option maxRecDepth 100000 in
set_option maxHeartbeats 1000000 in
/-- angle.moebius -/
theorem moebius_any (n : Nat) (w : World) (h0 : 0 < n) (hn : n < 4611686018427387904) :
    Calls Try.prog 94 #[.int .i64 (n : Int)] w (RetVal (.int .i64 (moe n)) w) := by
  obtain ⟨L, hL⟩ : ∃ L, L = factorsL n := ⟨_, rfl⟩
  obtain ⟨Z, hZ⟩ : ∃ Z, Z = moe n := ⟨_, rfl⟩
  have hres : Hid (moeL L 1 = Z) := Lib.hid (by rw [hZ, hL]; rfl)
  have hlenL : L.length ≤ 4611686018427387904 := by
    have := facF_len n n 2
    rw [hL]
    unfold factorsL
    omega
  rw [← hZ]
  replace hL := Lib.hid hL
  have wn : IntKind.u64.wrap (n : Int) = (n : Int) := by rw [IntKind.wrap_u64]; omega
  clear hZ
  go_enter Try.func94, Try.ntmps94
  go_wp2_with fail
  refine (factors_any n _ h0 hn).mono ?_
  rintro e w1 ⟨v, rfl, hown, hB⟩
  rw [← hL.out] at hown
  by_cases hL0 : 0 < L.length
  · obtain ⟨g, cap, cur, rfl, hblk, hgb, hcur⟩ := fac_row hown hL0
    obtain ⟨len, hlen⟩ : ∃ len, len = L.length := ⟨_, rfl⟩
    rw [← hlen] at hcur hlenL ⊢
    replace hcur := Lib.hid hcur
    replace hlen := Lib.hid hlen
    clear hown hL hL0
    go_wp2_with fail
    go_loopw [3, 10] (fun x i wr => ∃ (X : Int) (k : Nat) (P M : List (Nat × Nat)), x = .int .i64 X ∧ i = .int .i64 (k : Int) ∧ P.length = k ∧ L = P ++ M ∧ (X = 1 ∨ X = -1) ∧ moeL M X = Z ∧ Blk wr g 164 cur ∧ Below w.heap.size w wr) (fun _ i _ => len - (intOf i).toNat)
    case atStart => exact ⟨1, 0, [], L, rfl, rfl, rfl, rfl, .inl rfl, hres.out, hblk, hB⟩
    case round =>
      obtain ⟨X, k, P, M, rfl, rfl, hP, hPM, hX, hm, hbr, hBr⟩ := hrel
      clear hblk hB
      rcases M with _ | ⟨⟨p, c⟩, M⟩
      · have hkl : k = len := by rw [hlen.out, hPM, List.append_nil, hP]
        subst hkl
        rw [moeL] at hm
        replace hm := Lib.hid hm
        replace hBr := Lib.hid hBr
        clear hbr hPM hP hX
        go_wp2_with fail
        go_ret
        exact ⟨by rw [← hm.out]; rfl, hBr.out⟩
      · have hjl : k < len := by rw [hlen.out, hPM, List.length_append, hP]; simp
        have hjI : (k : Int) < (len : Int) := by omega
        have hat := facC_at (M := M) (p := p) (c := c) hP
        have c0 : wr.cell? ⟨g, k * 2, none⟩ = some (.int .u64 (p : Int)) := by rw [Blk.cell hbr, hcur.out _ (by omega), hPM]; exact hat.1
        have c1 : wr.cell? ⟨g, k * 2 + 1, none⟩ = some (.int .i64 (c : Int)) := by rw [Blk.cell hbr, hcur.out _ (by omega), hPM]; exact hat.2
        have qg := Lib.hid (hbr.alloc (.cells #[.int .u64 (p : Int), .int .i64 (c : Int)] 164))
        have hB3 := Lib.hid (hBr.alloc hBr.size (.cells #[.int .u64 (p : Int), .int .i64 (c : Int)] 164))
        rw [moeL] at hm
        have hPM2 : Hid (L = (P ++ [(p, c)]) ++ M) := Lib.hid (by rw [hPM]; simp)
        have hP2 : Hid ((P ++ [(p, c)]).length = k + 1) := Lib.hid (by rw [List.length_append, hP]; rfl)
        by_cases hc : 1 < c
        · rw [if_pos hc] at hm
          replace hm := Lib.hid hm
          have hcI : (1 : Int) < (c : Int) := by omega
          clear hat hPM hP hX hbr hBr
          go_wp2_with fail
          go_ret
          exact ⟨by rw [← hm.out]; rfl, hB3.out⟩
        · rw [if_neg hc] at hm
          replace hm := Lib.hid hm
          have hcI : ¬ (1 : Int) < (c : Int) := by omega
          clear hat hPM hP hbr hBr hc
          rcases hX with rfl | rfl
          all_goals
            go_wp2_with fail
            go_roundw
            case rel => exact ⟨_, k + 1, P ++ [(p, c)], M, rfl, by go_num, hP2.out, hPM2.out, by decide, by simpa using hm.out, qg.out, hB3.out⟩
            case measure => simp [intOf]; omega
  · have hLn : L = [] := List.eq_nil_of_length_eq_zero (by omega)
    subst hLn
    have hv : v = .slice none 0 0 ∨ ∃ g2 cap2, v = .slice (some ⟨g2, 0, none⟩) 0 cap2 := by
      rcases hown.2 with ⟨h, _⟩ | ⟨g2, cap2, _, h, _⟩
      · exact .inl h
      · exact .inr ⟨g2, cap2, h⟩
    replace hB := Lib.hid hB
    clear hown hL
    rcases hv with rfl | ⟨g2, cap2, rfl⟩
    all_goals
      go_wp2_with fail
      go_loopw [3, 10] (fun x j wr => x = .int .i64 1 ∧ j = .int .i64 0 ∧ wr = w1) (fun _ _ _ => 0)
      case atStart => exact ⟨rfl, rfl, rfl⟩
      case round =>
        obtain ⟨rfl, rfl, rfl⟩ := hrel
        go_wp2_with fail
        go_ret
        exact ⟨by rw [← hres.out]; rfl, hB.out⟩

set_option maxRecDepth 100000 in
set_option maxHeartbeats 400000 in
/-- digits.size: how many bits. -/
theorem sizeD_any (v : Value) (N : Nat) (w : World) (hu : Dg w v N) (hlv : (dg N).length ≤ 1073741824) :
    Calls Try.prog 95 #[v] w fun e w' => e = .returned (.int .i64 ((bitsN N : Nat) : Int)) ∧ w = w' := by
  rcases Nat.eq_zero_or_pos N with h0 | h0
  · subst h0
    obtain ⟨A, c, rfl, h1, h2, h3⟩ := id hu
    have hu := Lib.hid hu
    clear h3
    simp only [dg_zero, List.length_nil]
    go_enter Try.func95, Try.ntmps95
    go_wp2_with fail
    go_ret
    exact ⟨rfl, rfl⟩
  · have hl := dg_len_pos h0
    obtain ⟨g, o, c, L, rfl, h1, h2, hA, hL⟩ := hu.open_ (fun e => by rw [e] at hl; simp at hl)
    obtain ⟨x, hx, hx2⟩ := getElem?_last (l := dg N) (fun e => by rw [e] at hl; simp at hl)
    have hxs := getElem?_dg hx
    have hc : w.cell? ⟨g, o + ((dg N).length - 1), none⟩ = some (.int .u32 (x : Int)) := hA.cell (hL _ _ hx)
    have hb := bitLen_spec hxs (dg_last N x hx2)
    have HB : Hid (bitsN N = 32 * ((dg N).length - 1) + Go.Lib.bitLen x) := Lib.hid (by
      unfold bitsN
      rw [List.getLastD_eq_getLast?, hx2]; rfl)
    obtain ⟨K, hK⟩ : ∃ K, K = (dg N).length := ⟨_, rfl⟩
    rw [← hK] at hlv hl hc HB h1 ⊢
    have hk0 : ((K : Int) == 0) = false := by simp; omega
    have hbl : Go.Lib.bitLen x ≤ 32 := hb.2.1
    clear hu hx hx2 hK hb
    go_enter Try.func95, Try.ntmps95
    go_wp2_with fail
    refine (Try.bits_Len32 (x : Int) _ (by omega) (by omega)).mono ?_
    rintro e w1 ⟨rfl, rfl⟩
    rw [Int.toNat_natCast]
    obtain ⟨b, hb⟩ : ∃ b, b = Go.Lib.bitLen x := ⟨_, rfl⟩
    rw [← hb] at hbl HB ⊢
    clear hb
    go_wp2
    go_ret
    exact ⟨by rw [HB.out]; simp; omega, rfl⟩

/-- The outcome: a number's bytes, in memory of the call's own. -/
def RetBytes (N : Nat) (w : World) (e : Ending) (w' : World) : Prop :=
  ∃ g, e = .returned (.slice (some ⟨g, 0, none⟩) (natL N).length (natL N).length) ∧ Arr w' g .u8 5 (natL N) ∧ w.heap.size ≤ g ∧ Below w.heap.size w w'

set_option maxRecDepth 100000 in
set_option maxHeartbeats 1000000 in
/-- Bytes -/
theorem bytesBig_any (p o N : Nat) (w : World) (hx : Big w p o (N : Int)) (hlen : (dg N).length ≤ 1073741) :
    Calls Try.prog 65 #[.pointer (some ⟨p, o, none⟩)] w (RetBytes N w) := by
  obtain ⟨v, hc1, hc2, h⟩ := hx.cells
  rw [Int.natAbs_natCast] at h
  obtain ⟨A, c, rfl, h1, h2, h3⟩ := id h
  have hplt := hx.slot.lt
  have hc2a : ∀ wr, Below w.heap.size w wr → wr.cell? ⟨p, o + 1, none⟩ = some (.slice A (dg N).length c) := fun wr hb => (hb.cell hplt).trans hc2
  replace hc2a := Lib.hid hc2a
  replace h := Lib.hid h
  replace h3 := Lib.hid h3
  obtain ⟨K, hK⟩ : ∃ K, K = (dg N).length := ⟨_, rfl⟩
  have hbn := nb_len_bitsN N
  have hdl : (nb N).length ≤ 4 * K := by rw [hK]; exact nb_len_le N
  rw [← hK] at h1 hlen hc2 hc2a
  have HK := Lib.hid hK
  obtain ⟨B, hB⟩ : ∃ B, B = bitsN N := ⟨_, rfl⟩
  have HB := Lib.hid hB
  obtain ⟨L, hL⟩ : ∃ L, L = (nb N).length := ⟨_, rfl⟩
  rw [← hL] at hbn hdl
  rw [← hB] at hbn
  have hLi : ((B : Int) + 7) / 8 = (L : Int) := by omega
  have hBs : B ≤ 50000000 := by omega
  have HL := Lib.hid hL
  have hmk := make_u8 L (by omega)
  have hvl : Hid (val (dg N) = N) := Lib.hid (val_dg N)
  clear hB hL hbn hc1 hx hK
  go_enter Try.func65, Try.ntmps65
  go_wp2_with fail
  have hD := Lib.hid h.out
  rw [HK.out]
  refine (sizeD_any _ N w h.out (by rw [← HK.out]; omega)).mono ?_
  rintro e w1 ⟨rfl, rfl⟩
  rw [← HB.out, ← HK.out]
  go_wp2_with fail
  have hA0 := Arr.new w .u8 5 (List.replicate L 0)
  have hB0 : Below w.heap.size w (w.alloc (.cells (ivs .u8 (List.replicate L 0)).toArray 5)) := (Below.refl _ _).alloc (Nat.le_refl _) _
  generalize hw0 : w.alloc (.cells (ivs .u8 (List.replicate L 0)).toArray 5) = w0 at hA0 hB0 ⊢
  generalize hg : w.heap.size = g at *
  have HG := Lib.hid hg
  clear hw0 hg hmk
  go_loopw [17] (fun i wr => ∃ (k : Nat) (O : List Nat), i = .int .i64 (k : Int) ∧ k ≤ L ∧ O.length = L ∧ (∀ x, x ∈ O → x < 256) ∧ (∀ t, t < k → O[L - 1 - t]? = some (N / 256 ^ t % 256)) ∧ Arr wr g .u8 5 O ∧ Below g w wr) (fun i _ => L - (intOf i).toNat)
  case atStart => exact ⟨0, _, rfl, Nat.zero_le _, by simp, fun x hx => by rw [List.eq_of_mem_replicate hx]; omega, fun t ht => absurd ht (by omega), hA0, hB0⟩
  case round =>
    obtain ⟨i, O, rfl, hi, hO, hOs, hOv, hA, hB⟩ := hrel
    have hO := Lib.hid hO
    have hOs := Lib.hid hOs
    have hOv := Lib.hid hOv
    by_cases h0 : i < L
    · obtain ⟨q, hq⟩ : ∃ q, q = i / 4 := ⟨_, rfl⟩
      have hqi : (i : Int) / 4 = (q : Int) := by omega
      obtain ⟨sh, hsh⟩ : ∃ sh, sh = 8 * (i % 4) := ⟨_, rfl⟩
      have hshi : (i : Int) % 4 * 8 = (sh : Int) := by omega
      have hsh32 : sh < 32 := by omega
      have hqK : q < K := by omega
      obtain ⟨x, hx⟩ : ∃ x, (dg N)[q]? = some x := ⟨_, List.getElem?_eq_getElem (by rw [← HK.out]; exact hqK)⟩
      have hxs : x < 4294967296 := (sm_dg N).get hx
      have hxv := digit_val (sm_dg N) hx
      obtain ⟨ga, oa, ca, La, ea, -, -, hAa, hLa⟩ := h.out.open_ (fun e => by have := HK.out; rw [e] at this; simp at this; omega)
      injection ea with ea1 _ ea2
      subst ea1 ea2
      have hcp : wr.cell? ⟨p, o + 1, none⟩ = some (.slice (some ⟨ga, oa, none⟩) K c) := hc2a.out wr hB
      have hcx : wr.cell? ⟨ga, oa + q, none⟩ = some (.int .u32 (x : Int)) := (hB.cell (by have := hAa.lt; rw [HG.out] at this; exact this)).trans (hAa.cell (hLa _ _ hx))
      obtain ⟨k, hk⟩ : ∃ k, k = L - 1 - i := ⟨_, rfl⟩
      have hki : (L : Int) - 1 - (i : Int) = (k : Int) := by omega
      have hkL : k < L := by omega
      obtain ⟨y, hy⟩ : ∃ y, O[k]? = some y := ⟨_, List.getElem?_eq_getElem (by rw [hO.out]; exact hkL)⟩
      have hcy : wr.cell? ⟨g, k, none⟩ = some (.int .u8 (y : Int)) := hA.cell hy
      have hfy : wr.frozen? ⟨g, k, none⟩ = false := hA.frozen _
      obtain ⟨z, hz⟩ : ∃ z, z = x / 2 ^ sh := ⟨_, rfl⟩
      have hzi : (x : Int) / 2 ^ sh = (z : Int) := by rw [hz]; push_cast; rfl
      have hzs : z < 4294967296 := by rw [hz]; exact Nat.lt_of_le_of_lt (Nat.div_le_self _ _) hxs
      obtain ⟨b, hb⟩ : ∃ b, b = z % 256 := ⟨_, rfl⟩
      have hbi : (z : Int) % 256 = (b : Int) := by rw [hb]; rfl
      have hbs : b < 256 := by omega
      have hbv : b = N / 256 ^ i % 256 := by
        rw [hb, hz, hxv, hsh, byte_of _ _ _ (by omega), hvl.out, hq, show 4 * (i / 4) + i % 4 = i by omega]
      have HV2 : Hid (∀ t, t < i + 1 → (O.set k b)[L - 1 - t]? = some (N / 256 ^ t % 256)) := Lib.hid (fun t ht => by
        by_cases hti : t = i
        · subst hti
          rw [← hk, List.getElem?_set_self (by rw [hO.out]; exact hkL), hbv]
        · rw [List.getElem?_set_ne (by omega)]
          exact hOv.out t (by omega))
      have HS2 : Hid (∀ x, x ∈ O.set k b → x < 256) := Lib.hid (fun x hx => by
        rcases List.mem_or_eq_of_mem_set hx with h1 | h1
        · exact hOs.out x h1
        · rw [h1]; exact hbs)
      clear hx hq hsh hy hz hb hk hxv hbv
      go_wp2_with fail
      go_roundw
      case rel => exact ⟨i + 1, O.set k b, by go_num, by omega, by rw [List.length_set]; exact hO.out, HS2.out, HV2.out, hA.set_ _ _, hB.setCell (Nat.le_refl _) _⟩
      case measure => simp [intOf]; omega
    · obtain rfl : i = L := by omega
      have HO : Hid (O = natL N) := Lib.hid (natL_of (by rw [hO.out, HL.out]) (fun t ht => by rw [← HL.out] at ht ⊢; exact hOv.out t ht))
      have HLn : Hid (i = (natL N).length) := Lib.hid (by rw [natL_len, HL.out])
      rw [HO.out] at hA
      replace hA := Lib.hid hA
      replace hB := Lib.hid hB
      go_wp2_with fail
      go_ret
      exact ⟨g, by rw [← HLn.out]; rfl, hA.out, by rw [HG.out]; exact Nat.le_refl _, by rw [HG.out]; exact hB.out⟩
end Go.Proofs.Ytciafmnideihjaa

namespace Go.Proofs.Ytciafmnideihjaa
open Go.RowKit Go.Sort

/-- The partial sums. -/
def cntP (d n j : Nat) : Int := dsum n (fun k => ((d : Int) ^ k - 1) * moe (n / k)) j
theorem cntP_all (d n : Nat) : cntP d n n = cntZ d n := rfl
theorem cntP_yes {d n j : Nat} (h : n % (j + 1) = 0) : cntP d n (j + 1) = cntP d n j + ((d : Int) ^ (j + 1) - 1) * moe (n / (j + 1)) := by
  unfold cntP dsum
  rw [rsum, if_pos h]
theorem cntP_no {d n j : Nat} (h : n % (j + 1) ≠ 0) : cntP d n (j + 1) = cntP d n j := by
  unfold cntP dsum
  rw [rsum, if_neg h, Int.add_zero]
theorem mul_moe {X : Int} (hX : 0 ≤ X) (n : Nat) : -X ≤ X * moe n ∧ X * moe n ≤ X := by
  rcases moe_cases n with h | h | h <;> rw [h]
  · rw [Int.mul_zero]; omega
  · rw [Int.mul_one]; omega
  · rw [Int.mul_neg, Int.mul_one]; omega
theorem cntP_abs {d n : Nat} (hd : 2 ≤ d) : ∀ j, -(rsum (fun m => (d : Int) ^ m - 1) j) ≤ cntP d n j ∧ cntP d n j ≤ rsum (fun m => (d : Int) ^ m - 1) j
  | 0 => ⟨Int.le_refl _, Int.le_refl _⟩
  | j + 1 => by
    have ih := cntP_abs (n := n) hd j
    have h4 := one_le_dpow (k := j + 1) hd
    have h0 : 0 ≤ (d : Int) ^ (j + 1) - 1 := by rw [pow_cast]; omega
    rw [rsum]
    by_cases h : n % (j + 1) = 0
    · rw [cntP_yes h]
      have := mul_moe h0 (n / (j + 1))
      omega
    · rw [cntP_no h]
      omega
theorem cntP_size {d n : Nat} (hd : 2 ≤ d) (j : Nat) : (cntP d n j).natAbs ≤ d ^ (j + 1) := by
  have h1 := cntP_abs (n := n) hd j
  have h2 := geo_less hd j
  rw [pow_cast] at h2
  omega
theorem dg_pow {d j z : Nat} (hd : d ≤ 64) (h : z ≤ d ^ j) : (dg z).length ≤ j + 1 := by
  refine dg_of_256 ?_
  have h1 : d ^ j ≤ 256 ^ j := Nat.pow_le_pow_left (by omega) _
  have h2 : 0 < 256 ^ j := Nat.pow_pos (by omega)
  rw [Nat.pow_succ]
  omega

set_option maxRecDepth 100000 in
set_option maxHeartbeats 1000000 in
/-- angle.count -/
theorem count_any (d n : Nat) (w : World) (hd2 : 2 ≤ d) (hd : d ≤ 64) (hn1 : 1 ≤ n) (hn : n ≤ 1024) :
    Calls Try.prog 64 #[.int .i64 (d : Int), .int .i64 (n : Int)] w (RetNew (cntZ d n) w) := by
  have kn := Lib.hid (Big.new w)
  have hB0 : Hid (Below w.heap.size w (w.alloc (.cells #[.bool false, .slice none 0 0] 120))) := Lib.hid ((Below.refl _ w).alloc (Nat.le_refl _) _)
  go_enter Try.func64, Try.ntmps64
  go_wp2_with fail
  go_loopw [6] (fun i wr => ∃ K : Nat, i = .int .i64 (K : Int) ∧ 1 ≤ K ∧ K ≤ n + 1 ∧ Big wr w.heap.size 0 (cntP d n (K - 1)) ∧ Below w.heap.size w wr) (fun i _ => n + 1 - (intOf i).toNat)
  case atStart => exact ⟨1, rfl, Nat.le_refl _, by omega, kn.out, hB0.out⟩
  case round =>
    obtain ⟨K, rfl, hK1, hK2, hs, hB⟩ := hrel
    replace hs := Lib.hid hs
    replace hB := Lib.hid hB
    clear kn hB0
    by_cases h0 : K ≤ n
    · have h0I : (K : Int) ≤ (n : Int) := by omega
      obtain ⟨R, hR⟩ : ∃ R, R = n % K := ⟨_, rfl⟩
      have hRi : (n : Int) % (K : Int) = (R : Int) := by rw [hR]; rfl
      have hRi' : (n : Int).tmod (K : Int) = (R : Int) := by rw [hR]; exact tmod_nat n K
      have hKz : ¬ (K : Int) = 0 := by omega
      by_cases hR0 : R = 0
      · subst hR0
        obtain ⟨q, hq⟩ : ∃ q, q = n / K := ⟨_, rfl⟩
        have hqi : (n : Int) / (K : Int) = (q : Int) := by rw [hq]; rfl
        have hqi' : (n : Int).tdiv (K : Int) = (q : Int) := by rw [hq]; exact tdiv_nat n K
        have hq0 : 0 < q := by rw [hq]; exact Nat.div_pos h0 hK1
        have hqn : q ≤ n := by rw [hq]; exact Nat.div_le_self _ _
        obtain ⟨m, hm⟩ : ∃ m, m = moe q := ⟨_, rfl⟩
        have hmc : m = 0 ∨ m = 1 ∨ m = -1 := by rw [hm]; exact moe_cases q
        obtain ⟨E, hE⟩ : ∃ E, E = d ^ K := ⟨_, rfl⟩
        have hE1 : 1 ≤ E := by rw [hE]; exact one_le_dpow hd2
        have hnext : Hid (cntP d n (K - 1) + ((E : Int) - ((1 : Nat) : Int)) * m = cntP d n K) := Lib.hid (by
          obtain ⟨j, rfl⟩ : ∃ j, K = j + 1 := ⟨K - 1, by omega⟩
          rw [cntP_yes hR.symm, pow_cast, ← hE, ← hq, ← hm]
          rfl)
        have z1 : Hid ((dg (d ^ K)).length ≤ 1073741823) := Lib.hid (by have := dg_pow (j := K) hd (Nat.le_refl _); omega)
        have hX0 : (0 : Int) ≤ (E : Int) - ((1 : Nat) : Int) := by omega
        have hmm := mul_moe hX0 q
        rw [← hm] at hmm
        obtain ⟨X, hX⟩ : ∃ X, X = (E : Int) - ((1 : Nat) : Int) := ⟨_, rfl⟩
        rw [← hX] at hnext hmm hX0
        have z2 : Hid ((dg (E : Int).natAbs).length ≤ 1073741823) := Lib.hid (by have := dg_pow (z := E) (j := K) hd (by omega); rw [Int.natAbs_natCast]; omega)
        have z3 : Hid ((dg ((1 : Nat) : Int).natAbs).length ≤ 1073741823) := Lib.hid (by have := dg_pow (d := 1) (z := 1) (j := 0) (by omega) (by omega); rw [Int.natAbs_natCast]; omega)
        have z4 : Hid ((dg X.natAbs).length ≤ 1073741823) := Lib.hid (by have := dg_pow (z := X.natAbs) (j := K) hd (by omega); omega)
        have z5 : Hid ((dg m.natAbs).length ≤ 1073741823) := Lib.hid (by have := dg_pow (d := 1) (z := m.natAbs) (j := 0) (by omega) (by omega); omega)
        have z6 : Hid ((dg (X * m).natAbs).length ≤ 1073741823) := Lib.hid (by have := dg_pow (z := (X * m).natAbs) (j := K) hd (by omega); omega)
        have z7 : Hid ((dg (cntP d n (K - 1)).natAbs).length ≤ 1073741823) := Lib.hid (by have := dg_pow (j := K - 1 + 1) hd (cntP_size (n := n) hd2 (K - 1)); omega)
        obtain ⟨S, hS⟩ : ∃ S, S = cntP d n (K - 1) := ⟨_, rfl⟩
        rw [← hS] at hs hnext z7
        replace hm := Lib.hid hm
        replace hE := Lib.hid hE
        replace hX := Lib.hid hX
        replace hmc := Lib.hid hmc
        have hlt := hs.out.slot.lt
        have hne : Hid (w.heap.size ≠ wr.heap.size) := Lib.hid (by omega)
        have kA := Lib.hid (Big.new wr)
        have hs1 := Lib.hid (hs.out.alloc (.cells #[.bool false, .slice none 0 0] 120))
        have hB1 := Lib.hid (hB.out.alloc hB.out.size (.cells #[.bool false, .slice none 0 0] 120))
        obtain ⟨a, ha⟩ : ∃ a, a = wr.heap.size := ⟨_, rfl⟩
        have hsz : Hid (w.heap.size ≤ wr.heap.size) := Lib.hid hB.out.size
        clear hR hq hS hmm hX0 hs hB hlt
        go_wp2_with fail
        refine (newInt_any d _ (by omega)).mono ?_
        rintro e w1 ⟨pd, rfl, hpd, hbd, hb⟩
        have kA1 := Lib.hid (kA.out.below hb)
        have hs2 := Lib.hid (hs1.out.below hb)
        have hB2 := Lib.hid (hB1.out.trans (hb.mono hB1.out.size))
        have npd : Hid (pd ≠ wr.heap.size) := Lib.hid (by simp at hpd; omega)
        replace hbd := Lib.hid hbd
        clear hb hpd kA hs1 hB1
        go_wp2_with fail
        refine (newInt_any K _ (by omega)).mono ?_
        rintro e w2 ⟨pk, rfl, hpk, hbk, hb⟩
        have kA2 := Lib.hid (kA1.out.below hb)
        have hs3 := Lib.hid (hs2.out.below hb)
        have hbd2 := Lib.hid (hbd.out.below hb)
        have hB3 := Lib.hid (hB2.out.trans (hb.mono hB2.out.size))
        replace hbk := Lib.hid hbk
        clear hb hpk kA1 hs2 hB2 hbd
        go_wp2_with fail
        refine (expBig_any wr.heap.size 0 pd 0 pk 0 d K _ kA2.out.slot hbd2.out hbk.out (by omega) (by omega) z1.out _).mono ?_
        rintro e w3 ⟨rfl, kA3, hg⟩
        rw [← hE.out] at kA3
        have hs4 := Lib.hid (hs3.out.grown kA2.out.slot hg hne.out)
        have hB4 := Lib.hid (below_gb hB3.out hg hsz.out hB3.out.size)
        replace kA3 := Lib.hid kA3
        clear hg kA2 hs3 hB3 hbd2 hbk
        go_wp2_with fail
        refine (newInt_any 1 _ (by omega)).mono ?_
        rintro e w4 ⟨p1, rfl, hp1, hb1, hb⟩
        have kA4 := Lib.hid (kA3.out.below hb)
        have hs5 := Lib.hid (hs4.out.below hb)
        have hB5 := Lib.hid (hB4.out.trans (hb.mono hB4.out.size))
        replace hb1 := Lib.hid hb1
        clear hb hp1 kA3 hs4 hB4
        go_wp2_with fail
        refine (subBig_any wr.heap.size 0 wr.heap.size 0 p1 0 (E : Int) ((1 : Nat) : Int) _ kA4.out.slot kA4.out hb1.out z2.out z3.out).mono ?_
        rintro e w5 ⟨rfl, kA5, hg⟩
        rw [← hX.out] at kA5
        have hs6 := Lib.hid (hs5.out.grown kA4.out.slot hg hne.out)
        have hB6 := Lib.hid (below_gb hB5.out hg hsz.out hB5.out.size)
        replace kA5 := Lib.hid kA5
        clear hg kA4 hs5 hB5 hb1
        go_wp2_with fail
        refine (moebius_any q _ hq0 (by omega)).mono ?_
        rintro e w6 ⟨rfl, hb⟩
        rw [← hm.out]
        have kA6 := Lib.hid (kA5.out.below hb)
        have hs7 := Lib.hid (hs6.out.below hb)
        have hB7 := Lib.hid (hB6.out.trans (hb.mono hB6.out.size))
        clear hb kA5 hs6 hB6
        go_wp2_with fail
        refine (newIntS_any m _ hmc.out).mono ?_
        rintro e w7 ⟨pm, rfl, hpm, hbm, hb⟩
        have kA7 := Lib.hid (kA6.out.below hb)
        have hs8 := Lib.hid (hs7.out.below hb)
        have hB8 := Lib.hid (hB7.out.trans (hb.mono hB7.out.size))
        replace hbm := Lib.hid hbm
        clear hb hpm kA6 hs7 hB7
        go_wp2_with fail
        refine (mulBig_any wr.heap.size 0 wr.heap.size 0 pm 0 X m _ kA7.out.slot kA7.out hbm.out z4.out z5.out).mono ?_
        rintro e w8 ⟨rfl, kA8, hg⟩
        have hs9 := Lib.hid (hs8.out.grown kA7.out.slot hg hne.out)
        have hB9 := Lib.hid (below_gb hB8.out hg hsz.out hB8.out.size)
        replace kA8 := Lib.hid kA8
        clear hg kA7 hs8 hB8 hbm
        go_wp2_with fail
        refine (addBig_any w.heap.size 0 w.heap.size 0 wr.heap.size 0 S (X * m) _ hs9.out.slot hs9.out kA8.out z7.out z6.out).mono ?_
        rintro e w9 ⟨rfl, hs10, hg⟩
        rw [hnext.out] at hs10
        have hB10 := Lib.hid (below_gb hB9.out hg (Nat.le_refl _) hB9.out.size)
        replace hs10 := Lib.hid hs10
        clear hg hs9 hB9 kA8 hqi hqi'
        go_wp2_with fail
        go_roundw
        case rel => exact ⟨K + 1, by go_num, by omega, by omega, hs10.out, hB10.out⟩
        case measure => simp [intOf]; omega
      · have hRb : ((R : Int) == 0) = false := by simp; omega
        have hs2 : Hid (Big wr w.heap.size 0 (cntP d n K)) := Lib.hid (by
          obtain ⟨j, rfl⟩ : ∃ j, K = j + 1 := ⟨K - 1, by omega⟩
          rw [cntP_no (by omega)]
          exact hs.out)
        clear hR hs
        go_wp2_with fail
        go_roundw
        case rel => exact ⟨K + 1, by go_num, by omega, by omega, hs2.out, hB.out⟩
        case measure => simp [intOf]; omega
    · have h0I : ¬ (K : Int) ≤ (n : Int) := by omega
      have hs2 : Hid (Big wr w.heap.size 0 (cntZ d n)) := Lib.hid (by
        have := hs.out
        rw [show K - 1 = n by omega] at this
        exact this)
      clear hs
      go_wp2_with fail
      go_ret
      exact ⟨w.heap.size, rfl, Nat.le_refl _, hs2.out, hB.out⟩

/-- The number that Count tells. -/
def cntN (d n : Nat) : Nat := (cntZ d n).toNat
theorem cntN_eq {d n : Nat} (hd : 2 ≤ d) (h1 : 1 ≤ n) (h2 : n ≤ 1024) : cntZ d n = (cntN d n : Int) := by
  have := (cnt_bounds hd n h1 h2).1
  unfold cntN
  omega
theorem cntN_le {d n : Nat} (hd : 2 ≤ d) (h1 : 1 ≤ n) (h2 : n ≤ 1024) : cntN d n < d ^ n := by
  have := (cnt_bounds hd n h1 h2).2
  have h3 := one_le_dpow (k := n) hd
  rw [pow_cast] at this
  unfold cntN
  omega
/-- May the two numbers be? -/
def mayN (d n : Int) : Bool := roundB d && (decide (1 ≤ n) && decide (n ≤ 1024))
def CountV (d n : Int) : Value := if mayN d n then .tuple #[.string (natS (cntN d.toNat n.toNat)), .int .i64 0] else .tuple #[.string ⟨#[]⟩, .int .i64 2]

set_option maxRecDepth 100000 in
set_option maxHeartbeats 1000000 in
/-- angle.Count -/
theorem Count_any (d n : Int) (w : World) :
    Calls Try.prog 41 #[.int .i64 d, .int .i64 n] w (RetVal (CountV d n) w) := by
  obtain ⟨V, hV⟩ : ∃ V, V = CountV d n := ⟨_, rfl⟩
  rw [← hV]
  cases hr : roundB d
  · have hVe : Hid (V = .tuple #[.string ⟨#[]⟩, .int .i64 2]) := Lib.hid (by rw [hV]; simp [CountV, mayN, hr])
    replace hr := Lib.hid hr
    clear hV
    go_enter Try.func41, Try.ntmps41
    go_wp2_with fail
    refine (aturns_any d _).mono ?_
    rintro e v2 ⟨rfl, rfl⟩
    rw [hr.out]
    go_wp2_with fail
    go_ret2
    exact ⟨by rw [hVe.out]; rfl, Below.refl _ _⟩
  by_cases hn0 : n < 1
  · have hVe : Hid (V = .tuple #[.string ⟨#[]⟩, .int .i64 2]) := Lib.hid (by
      have : ¬ 1 ≤ n := by omega
      rw [hV]; simp [CountV, mayN, hr, this])
    replace hr := Lib.hid hr
    clear hV
    go_enter Try.func41, Try.ntmps41
    go_wp2_with fail
    refine (aturns_any d _).mono ?_
    rintro e v2 ⟨rfl, rfl⟩
    rw [hr.out]
    go_wp2_with fail
    go_ret2
    exact ⟨by rw [hVe.out]; rfl, Below.refl _ _⟩
  by_cases hn1 : 1024 < n
  · have hVe : Hid (V = .tuple #[.string ⟨#[]⟩, .int .i64 2]) := Lib.hid (by
      have : ¬ n ≤ 1024 := by omega
      rw [hV]; simp [CountV, mayN, hr, this])
    replace hr := Lib.hid hr
    clear hV
    go_enter Try.func41, Try.ntmps41
    go_wp2_with fail
    refine (aturns_any d _).mono ?_
    rintro e v2 ⟨rfl, rfl⟩
    rw [hr.out]
    go_wp2_with fail
    go_ret2
    exact ⟨by rw [hVe.out]; rfl, Below.refl _ _⟩
  have hd := roundB_iff.1 hr
  obtain ⟨dn, rfl⟩ := Int.eq_ofNat_of_zero_le (show 0 ≤ d by omega)
  obtain ⟨nn, rfl⟩ := Int.eq_ofNat_of_zero_le (show 0 ≤ n by omega)
  obtain ⟨N, hN⟩ : ∃ N, N = cntN dn nn := ⟨_, rfl⟩
  have hVe : Hid (V = .tuple #[.string (natS N), .int .i64 0]) := Lib.hid (by
    have h1 : (1 : Int) ≤ (nn : Int) := by omega
    have h2 : (nn : Int) ≤ 1024 := by omega
    rw [hV]; simp only [CountV, mayN, hr, h1, h2, decide_true, Bool.and_self, if_true, Int.toNat_natCast, hN])
  have hc := Lib.hid (cntN_eq (d := dn) (n := nn) (by omega) (by omega) (by omega))
  rw [← hN] at hc
  have hdg : Hid ((dg N).length ≤ 1073741) := Lib.hid (by
    have h1 := cntN_le (d := dn) (n := nn) (by omega) (by omega) (by omega)
    rw [← hN] at h1
    have h2 := dg_pow (d := dn) (z := N) (j := nn) (by omega) (by omega)
    omega)
  have hS : Hid (natS N = ⟨((natL N).map UInt8.ofNat).toArray⟩) := Lib.hid rfl
  have e1 : 2 ≤ dn := by omega
  have e2 : dn ≤ 64 := by omega
  replace hr := Lib.hid hr
  clear hV hN hd
  go_enter Try.func41, Try.ntmps41
  go_wp2_with fail
  refine (aturns_any (dn : Int) _).mono ?_
  rintro e v2 ⟨rfl, rfl⟩
  rw [hr.out]
  go_wp2_with fail
  refine (count_any dn nn _ e1 e2 (by omega) (by omega)).mono ?_
  rintro e w1 ⟨p, rfl, hp, hbig, hb⟩
  rw [hc.out] at hbig
  replace hbig := Lib.hid hbig
  replace hb := Lib.hid hb
  clear hp
  go_wp2_with fail
  refine (bytesBig_any p 0 N _ hbig.out hdg.out).mono ?_
  rintro e w2 ⟨g, rfl, hA, hg, hb2⟩
  have hB := Lib.hid (hb.out.trans (hb2.mono hb.out.size))
  have hcv := conv_str w2 g (natL N) (natL N).length hA natL_lt 22 Try.underlying22
  rw [← hS.out] at hcv
  clear hb hb2 hA hbig hg
  generalize (natL N).length = LN at hcv ⊢
  go_wp2_with fail
  go_ret2
  exact ⟨by rw [hVe.out]; rfl, hB.out⟩
end Go.Proofs.Ytciafmnideihjaa

namespace Go.Proofs.Ytciafmnideihjaa
open Go.RowKit Go.Sort

/-- The angles of the period n among the first k. -/
def allP (d n k : Nat) : List (Nat × Nat) := ((List.range k).map fun j => rd j (d ^ n - 1)).filter fun p => decide ((kindN p.2 d).2 = n)
def allL (d n : Nat) : List (Nat × Nat) := allP d n (d ^ n - 1)
theorem allP_yes {d n k : Nat} (h : (kindN (rd k (d ^ n - 1)).2 d).2 = n) : allP d n (k + 1) = allP d n k ++ [rd k (d ^ n - 1)] := by
  unfold allP
  rw [List.range_succ, List.map_append, List.filter_append]
  simp [h]
theorem allP_no {d n k : Nat} (h : (kindN (rd k (d ^ n - 1)).2 d).2 ≠ n) : allP d n (k + 1) = allP d n k := by
  unfold allP
  rw [List.range_succ, List.map_append, List.filter_append]
  simp [h]
theorem allP_len (d n k : Nat) : (allP d n k).length ≤ k := by
  unfold allP
  refine Nat.le_trans (List.length_filter_le _ _) ?_
  simp
def allE (d n : Int) : Int := if mayN d n then if cntN d.toNat n.toNat ≤ 4096 then 0 else 211 else 2
def allR (d n : Int) : List (Nat × Nat) := if mayN d n && decide (cntN d.toNat n.toNat ≤ 4096) then allL d.toNat n.toNat else []

set_option maxRecDepth 100000 in
set_option maxHeartbeats 2000000 in
/-- angle.All -/
theorem All_any (d n : Int) (w : World) :
    Calls Try.prog 42 #[.int .i64 d, .int .i64 n] w (RetRow 24 3 (allE d n) (allR d n).length (ratC (allR d n)) w) := by
  obtain ⟨i0, hi, hz0, hz1, hz2⟩ := info_parts info_ratio
  obtain ⟨E, hE⟩ : ∃ E, E = allE d n := ⟨_, rfl⟩
  obtain ⟨R, hR⟩ : ∃ R, R = allR d n := ⟨_, rfl⟩
  rw [← hE, ← hR]
  cases hr : roundB d
  · have hEv : E = 2 := by rw [hE]; simp [allE, mayN, hr]
    have hRv : R = [] := by rw [hR]; simp [allR, mayN, hr]
    subst hEv hRv
    replace hr := Lib.hid hr
    clear hE hR
    go_enter Try.func42, Try.ntmps42
    go_wp2_with fail
    refine (aturns_any d _).mono ?_
    rintro e v2 ⟨rfl, rfl⟩
    rw [hr.out]
    go_wp2_with fail
    go_ret2
    exact ⟨_, rfl, World.ownsRow_nil _ _ _ _, Below.refl _ _⟩
  by_cases hn0 : n < 1
  · have h1 : ¬ 1 ≤ n := by omega
    have hEv : E = 2 := by rw [hE]; simp [allE, mayN, hr, h1]
    have hRv : R = [] := by rw [hR]; simp [allR, mayN, hr, h1]
    subst hEv hRv
    replace hr := Lib.hid hr
    clear hE hR
    go_enter Try.func42, Try.ntmps42
    go_wp2_with fail
    refine (aturns_any d _).mono ?_
    rintro e v2 ⟨rfl, rfl⟩
    rw [hr.out]
    go_wp2_with fail
    go_ret2
    exact ⟨_, rfl, World.ownsRow_nil _ _ _ _, Below.refl _ _⟩
  by_cases hn1 : 1024 < n
  · have h1 : ¬ n ≤ 1024 := by omega
    have hEv : E = 2 := by rw [hE]; simp [allE, mayN, hr, h1]
    have hRv : R = [] := by rw [hR]; simp [allR, mayN, hr, h1]
    subst hEv hRv
    replace hr := Lib.hid hr
    clear hE hR
    go_enter Try.func42, Try.ntmps42
    go_wp2_with fail
    refine (aturns_any d _).mono ?_
    rintro e v2 ⟨rfl, rfl⟩
    rw [hr.out]
    go_wp2_with fail
    go_ret2
    exact ⟨_, rfl, World.ownsRow_nil _ _ _ _, Below.refl _ _⟩
  have hd := roundB_iff.1 hr
  obtain ⟨dn, rfl⟩ := Int.eq_ofNat_of_zero_le (show 0 ≤ d by omega)
  obtain ⟨nn, rfl⟩ := Int.eq_ofNat_of_zero_le (show 0 ≤ n by omega)
  have hd2 : 2 ≤ dn := by omega
  have hd64 : dn ≤ 64 := by omega
  have hn1' : 1 ≤ nn := by omega
  have hn2 : nn ≤ 1024 := by omega
  have hmay : mayN (dn : Int) (nn : Int) = true := by
    have h1 : (1 : Int) ≤ (nn : Int) := by omega
    have h2 : (nn : Int) ≤ 1024 := by omega
    simp only [mayN, hr, h1, h2, decide_true, Bool.and_self]
  obtain ⟨C, hC⟩ : ∃ C, C = cntN dn nn := ⟨_, rfl⟩
  have hc := Lib.hid (cntN_eq (d := dn) (n := nn) hd2 hn1' hn2)
  rw [← hC] at hc
  have hE2 : E = if C ≤ 4096 then 0 else 211 := by rw [hE, hC]; simp only [allE, hmay, if_true, Int.toNat_natCast]
  have hR2 : R = if C ≤ 4096 then allL dn nn else [] := by rw [hR, hC]; simp only [allR, hmay, Bool.true_and, decide_eq_true_eq, Int.toNat_natCast]
  have hlit : C ≤ 4096 → dn ^ nn < 2147483648 := fun h => cnt_little hd2 hn1' hn2 (by rw [hc.out]; omega)
  replace hr := Lib.hid hr
  clear hE hR hmay hC hd
  by_cases hC4 : C ≤ 4096
  rotate_left
  · rw [if_neg hC4] at hE2 hR2
    subst hE2 hR2
    have hcm : Hid (cmpI C 4096 = 1) := Lib.hid (by unfold cmpI; rw [if_neg (by omega), if_pos (by omega)])
    clear hlit
    go_enter Try.func42, Try.ntmps42
    go_wp2_with fail
    refine (aturns_any (dn : Int) _).mono ?_
    rintro e v2 ⟨rfl, rfl⟩
    rw [hr.out]
    go_wp2_with fail
    refine (count_any dn nn _ hd2 hd64 hn1' hn2).mono ?_
    rintro e w1 ⟨p, rfl, hp, hbig, hb⟩
    rw [hc.out] at hbig
    replace hbig := Lib.hid hbig
    replace hb := Lib.hid hb
    clear hp
    go_wp2_with fail
    refine (newInt_any 4096 _ (by omega)).mono ?_
    rintro e w2 ⟨p2, rfl, hp2, hbig2, hb2⟩
    have hbig' := Lib.hid (hbig.out.below hb2)
    have hB := Lib.hid (hb.out.trans (hb2.mono hb.out.size))
    replace hbig2 := Lib.hid hbig2
    clear hb hb2 hp2 hbig
    go_wp2_with fail
    refine (cmpBig_any p 0 p2 0 C 4096 _ hbig'.out hbig2.out).mono ?_
    rintro e w3 ⟨rfl, nd, rfl⟩
    rw [hcm.out]
    replace hB := Lib.hid (below_drewN hB.out nd)
    clear hbig' hbig2
    go_wp2_with fail
    go_ret2
    exact ⟨_, rfl, World.ownsRow_nil _ _ _ _, hB.out⟩
  rw [if_pos hC4] at hE2 hR2
  subst hE2
  replace hR2 := Lib.hid hR2
  have hcm : Hid (cmpI C 4096 = 0 ∨ cmpI C 4096 = -1) := Lib.hid (by
    unfold cmpI
    by_cases h : C < 4096
    · rw [if_pos h]; exact .inr rfl
    · rw [if_neg h, if_neg (by omega)]; exact .inl rfl)
  obtain ⟨Y, hY⟩ : ∃ Y, Y = dn ^ nn := ⟨_, rfl⟩
  have hYs := hlit hC4
  rw [← hY] at hYs
  have hY2 : 2 ≤ Y := by
    rw [hY]
    have := Nat.pow_le_pow_right (show 0 < dn by omega) hn1'
    rw [Nat.pow_one] at this
    omega
  have hpw : Hid (∀ k, k ≤ nn → dn ^ k ≤ Y) := Lib.hid (fun k hk => by rw [hY]; exact Nat.pow_le_pow_right (by omega) hk)
  replace hY := Lib.hid hY
  obtain ⟨den, hden⟩ : ∃ den, den = Y - 1 := ⟨_, rfl⟩
  have hdi : (Y : Int) - 1 = (den : Int) := by omega
  have hds : den < 2147483648 := by omega
  have hd1 : 1 ≤ den := by omega
  have hrdE : Hid (∀ k, rd k (dn ^ nn - 1) = (k / Nat.gcd k den, den / Nat.gcd k den)) := Lib.hid (fun k => by rw [← hY.out, ← hden]; rfl)
  have hRl : Hid (R = allP dn nn den) := Lib.hid (by rw [hR2.out, hden, hY.out]; rfl)
  have wd : IntKind.u64.wrap (dn : Int) = (dn : Int) := by rw [IntKind.wrap_u64]; omega
  clear hlit hC4 hden hR2
  go_enter Try.func42, Try.ntmps42
  go_wp2_with fail
  refine (aturns_any (dn : Int) _).mono ?_
  rintro e v2 ⟨rfl, rfl⟩
  rw [hr.out]
  go_wp2_with fail
  refine (count_any dn nn _ hd2 hd64 hn1' hn2).mono ?_
  rintro e w1 ⟨p, rfl, hp, hbig, hb⟩
  rw [hc.out] at hbig
  replace hbig := Lib.hid hbig
  replace hb := Lib.hid hb
  clear hp hc
  go_wp2_with fail
  refine (newInt_any 4096 _ (by omega)).mono ?_
  rintro e w2 ⟨p2, rfl, hp2, hbig2, hb2⟩
  have hbig' := Lib.hid (hbig.out.below hb2)
  have hB := Lib.hid (hb.out.trans (hb2.mono hb.out.size))
  replace hbig2 := Lib.hid hbig2
  clear hb hb2 hp2 hbig
  go_wp2_with fail
  refine (cmpBig_any p 0 p2 0 C 4096 _ hbig'.out hbig2.out).mono ?_
  rintro e w3 ⟨rfl, nd, rfl⟩
  replace hB := Lib.hid (below_drewN hB.out nd)
  clear hbig' hbig2
  obtain ⟨W, hW⟩ : ∃ W, W = w2.drewN nd := ⟨_, rfl⟩
  rw [← hW] at hB ⊢
  clear hW
  obtain ⟨cm, hcme⟩ : ∃ cm, cm = cmpI C 4096 := ⟨_, rfl⟩
  have hcm0 : ¬ 0 < cm := by rcases hcm.out with h | h <;> rw [hcme, h] <;> decide
  rw [← hcme]
  clear hcme hcm
  go_wp2_with fail
  go_loop [6, 30] (fun x i => ∃ k X : Nat, i = .int .i64 (k : Int) ∧ x = .int .u64 (X : Int) ∧ k ≤ nn ∧ X = dn ^ k) (fun _ i => nn - (intOf i).toNat)
  case atStart => exact ⟨0, 1, rfl, rfl, Nat.zero_le _, by simp⟩
  case round =>
    obtain ⟨k, X, rfl, rfl, hk, hX⟩ := hrel
    have hXs : X ≤ Y := by rw [hX]; exact hpw.out k hk
    by_cases h0 : k < nn
    · obtain ⟨Z, hZ⟩ : ∃ Z, Z = X * dn := ⟨_, rfl⟩
      have hZi : (X : Int) * (dn : Int) = (Z : Int) := by rw [hZ]; push_cast; rfl
      have hZ2 : Z = dn ^ (k + 1) := by rw [hZ, hX, Nat.pow_succ]
      have hZs : Z ≤ Y := by rw [hZ2]; exact hpw.out _ h0
      have h0I : (k : Int) < (nn : Int) := by omega
      replace hZ2 := Lib.hid hZ2
      clear hX hZ
      go_wp2_with fail
      go_round
      case rel => exact ⟨k + 1, Z, by go_num, by first | rfl | go_num, by omega, hZ2.out⟩
      case measure => simp [intOf]; omega
    · obtain rfl : k = nn := by omega
      have h0I : ¬ (k : Int) < (k : Int) := by omega
      have hXY : X = Y := by rw [hX, hY.out]
      subst hXY
      clear hX h0 wd
      have wd : IntKind.u64.wrap (dn : Int) = (dn : Int) := by rw [IntKind.wrap_u64]; omega
      go_wp2_with fail
      go_loopw [7, 40] (fun v kk wr => ∃ j : Nat, kk = .int .u64 (j : Int) ∧ j ≤ den ∧ wr.ownsRow w.heap.size 24 3 v (allP dn k j).length (ratC (allP dn k j)) ∧ Below w.heap.size w wr) (fun _ kk _ => den - (intOf kk).toNat)
      case atStart => exact ⟨0, rfl, Nat.zero_le _, World.ownsRow_nil _ _ _ _, hB.out⟩
      case round =>
        obtain ⟨j, rfl, hj, hown, hB⟩ := hrel
        replace hown := Lib.hid hown
        replace hB := Lib.hid hB
        by_cases hj0 : j < den
        · have hjI : (j : Int) < (den : Int) := by omega
          obtain ⟨N, hN⟩ : ∃ N, N = j / Nat.gcd j den := ⟨_, rfl⟩
          obtain ⟨D, hD⟩ : ∃ D, D = den / Nat.gcd j den := ⟨_, rfl⟩
          have hrd : rd j (dn ^ k - 1) = (N, D) := by rw [hrdE.out, hN, hD]
          have hf := rd_facts hd1 hj0
          have hrd2 : rd j den = (N, D) := by rw [hN, hD]; rfl
          rw [hrd2] at hf
          obtain ⟨f1, f2, f3⟩ := hf
          simp only at f1 f2 f3
          obtain ⟨A, hA⟩ : ∃ A, A = (kindN D dn).1 := ⟨_, rfl⟩
          obtain ⟨B, hBk⟩ : ∃ B, B = (kindN D dn).2 := ⟨_, rfl⟩
          have hkk : Hid (kindN D dn = (A, B)) := Lib.hid (by rw [hA, hBk])
          have hyes : B = k → allP dn k (j + 1) = allP dn k j ++ [(N, D)] := fun h => by rw [allP_yes (by rw [hrd, ← hBk]; exact h), hrd]
          have hno : B ≠ k → allP dn k (j + 1) = allP dn k j := fun h => allP_no (by rw [hrd, ← hBk]; exact h)
          have hlen := allP_len dn k j
          have b1 : Hid (j < 18446744073709551616) := Lib.hid (by omega)
          have b2 : Hid (den < 18446744073709551616) := Lib.hid (by omega)
          have b3 : Hid (N < 18446744073709551616) := Lib.hid (by omega)
          have b4 : Hid (D < 18446744073709551616) := Lib.hid (by omega)
          have b5 : Hid (0 < D) := Lib.hid (by omega)
          have b6 : Hid (D < 4294967296) := Lib.hid (by omega)
          replace hN := Lib.hid hN
          replace hD := Lib.hid hD
          replace hyes := Lib.hid hyes
          replace hno := Lib.hid hno
          clear hrd hrd2 f1 f2 f3 hA hBk
          obtain ⟨wo, rfl⟩ : ∃ wo : World, wo = wr := ⟨_, rfl⟩
          go_wp2_with fail
          refine (lowest_any j den N D _ b1.out b2.out (by omega) hN hD).mono ?_
          rintro e v1 ⟨rfl, hb⟩
          have hown1 := (own_below hown.out hb).alloc (.cells #[.int .u64 (N : Int), .int .u64 (D : Int)] 91)
          have hq := Blk.new v1 91 #[.int .u64 (N : Int), .int .u64 (D : Int)]
          have hB1 := hB.out.trans (hb.mono hB.out.size)
          replace hB1 := hB1.alloc hB1.size (.cells #[.int .u64 (N : Int), .int .u64 (D : Int)] 91)
          clear hb hown hB
          go_upto_region 16 with fail
          generalize hv2 : v1.alloc (.cells #[.int .u64 (N : Int), .int .u64 (D : Int)] 91) = v2 at hown1 hq hB1 ⊢
          generalize hg : v1.heap.size = g at *
          have d0 : v2.cell? ⟨g, 0, none⟩ = some (.int .u64 (N : Int)) := hq.cell 0
          have d1 : v2.cell? ⟨g, 1, none⟩ = some (.int .u64 (D : Int)) := hq.cell 1
          clear hv2 hg
          replace hown1 := Lib.hid hown1
          replace hq := Lib.hid hq
          replace hB1 := Lib.hid hB1
          go_wp2_with fail
          refine (kind_any D dn A B _ b5.out b6.out (by omega) hkk).mono ?_
          rintro e v3 ⟨rfl, hb⟩
          have hown2 := Lib.hid (own_below hown1.out hb)
          have hB2 := Lib.hid (hB1.out.trans (hb.mono hB1.out.size))
          replace hq := Lib.hid (Blk.below hq.out hb)
          clear hb d0 d1 hown1 hB1
          have d0 : v3.cell? ⟨g, 0, none⟩ = some (.int .u64 (N : Int)) := hq.out.cell 0
          have d1 : v3.cell? ⟨g, 1, none⟩ = some (.int .u64 (D : Int)) := hq.out.cell 1
          by_cases hBk : B = k
          · have hnx := hyes.out hBk
            have hl2 : Hid ((allP dn k (j + 1)).length = (allP dn k j).length + 1) := Lib.hid (by rw [hnx]; simp)
            have htk : Hid (ratC (allP dn k (j + 1)) = ratC (allP dn k j) ++ [.bool false, .string (natS N), .string (natS D)]) := Lib.hid (by rw [hnx, ratC_snoc])
            subst hBk
            clear hyes hno hnx
            go_wp2_with fail
            refine (ratioOf_any N D _ b3.out b4.out).mono ?_
            rintro e v4 ⟨rfl, hb⟩
            have hown3 := Lib.hid (own_below hown2.out hb)
            have hB3 := Lib.hid (hB2.out.trans (hb.mono hB2.out.size))
            clear hb d0 d1 hown2 hB2 hq
            simp only [ratV]
            go_wp2_with (at_builtin; refine wpList_append_own _ rfl _ _ 50 rfl w.heap.size 24 i0 (.agg #[.bool false, .string ⟨#[]⟩, .string ⟨#[]⟩]) 3 40 Try.underlying50 hi hz0 hz1 hz2 rfl (by decide) _ _ _ rfl (hown3.out.alloc _) ⟨v4.heap.size, 0, none⟩ 1 1 [.bool false, .string (natS N), .string (natS D)] rfl rfl ?d1 ?d2 ?d3 ?d4 ?d5 ?_)
            case d1 =>
              intro j u hj
              match j, hj with
              | 0, hj => simp at hj; subst hj; simp [Addr.add]
              | 1, hj => simp at hj; subst hj; simp [Addr.add]
              | 2, hj => simp at hj; subst hj; simp [Addr.add]
            case d2 => intro u hu; simp at hu; rcases hu with rfl | rfl | rfl <;> rfl
            case d3 => unfold maxLen; omega
            case d4 => omega
            case d5 => have := hB3.out.size; simp; omega
            intro v' w3 hown' hgrow _
            have hB4 : Below w.heap.size w w3 := (hB3.out.alloc hB3.out.size _).grown hgrow (by have := hB3.out.size; simp; omega) (fun k hk => by have := (hown3.out.lt k hk).1; omega)
            rw [← htk.out, ← hl2.out] at hown'
            replace hown' := Lib.hid hown'
            replace hB4 := Lib.hid hB4
            clear hgrow hown3 hB3 htk hl2
            go_wp2_with fail
            go_roundw
            case rel => exact ⟨j + 1, by go_num, by omega, hown'.out, hB4.out⟩
            case measure => simp [intOf]; omega
          · have hnx := hno.out hBk
            have hown3 := hown2.out
            rw [← hnx] at hown3
            replace hown3 := Lib.hid hown3
            have hBI : ((B : Int) == (k : Int)) = false := by simp; omega
            clear hyes hno hnx hq hown2
            go_wp2_with fail
            go_roundw
            case rel => exact ⟨j + 1, by go_num, by omega, hown3.out, hB2.out⟩
            case measure => simp [intOf]; omega
        · obtain rfl : j = den := by omega
          have hjI : ¬ (j : Int) < (j : Int) := by omega
          have hown2 := hown.out
          rw [← hRl.out] at hown2
          replace hown2 := Lib.hid hown2
          clear hown
          go_wp2_with fail
          go_ret2
          exact ⟨_, rfl, hown2.out, hB.out⟩
end Go.Proofs.Ytciafmnideihjaa
