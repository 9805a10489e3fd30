/- Counts of angles: wide.NewInt(-1), digits.size, Bytes; angle.moebius. -/
import Derived.Test.YtciafmnideihjaaSpellA
import Derived.Test.YtciafmnideihjaaMoe
import Derived.Test.YtciafmnideihjaaNatC
namespace Go.Proofs.Ytciafmnideihjaa
open Go.RowKit Go.Sort

/-- The sign set. -/
theorem Big.minus {w : World} {p o x : Nat} (h : Big w p o (x : Int)) (hx : 0 < x) : Big (w.setCell ⟨p, o, none⟩ (.bool true)) p o (-(x : Int)) := by
  obtain ⟨cs, T, v, h1, h2, h3, h4, h5⟩ := h
  have hlt := lt_of_size h3
  refine ⟨_, T, v, heap_setCell_same w p o cs T _ h1, h2, ?_, ?_, ?_⟩
  · rw [Array.getElem?_setIfInBounds_self_of_lt hlt]
    simp
    omega
  · rw [Array.getElem?_setIfInBounds_ne (by omega)]
    exact h4
  · rw [Int.natAbs_neg]
    exact Rd.setFar h5 (p := ⟨p, o, none⟩) h1 (Ne.symm h2) _

set_option maxRecDepth 100000 in
set_option maxHeartbeats 400000 in
/-- NewInt(-1) -/
theorem newIntM_any (w : World) : Calls Try.prog 67 #[.int .i64 (-1)] w (RetNew (-1) w) := by
  go_enter Try.func67, Try.ntmps67
  go_wp2_with fail
  refine (setUint64_any _ 0 18446744073709551615 _ (Big.new w).slot (by omega)).mono ?_
  rintro e w2 ⟨rfl, hb, hg⟩
  have hB := Lib.hid (below_gb ((Below.refl _ w).alloc (Nat.le_refl _) _) hg (Nat.le_refl _) (by simp))
  replace hb := Lib.hid hb
  clear hg
  go_wp2_with fail
  refine (setUint64_any _ 0 1 _ hb.out.slot (by omega)).mono ?_
  rintro e w3 ⟨rfl, hb3, hg⟩
  have hB3 := Lib.hid (below_gb hB.out hg (Nat.le_refl _) hB.out.size)
  obtain ⟨⟨u0, c0⟩, -, f0, -⟩ := hb3.slot.cells
  replace hb3 := Lib.hid hb3
  clear hg hb hB
  go_wp2_with fail
  go_ret
  exact ⟨w.heap.size, rfl, Nat.le_refl _, hb3.out.minus (x := 1) (by omega), hB3.out.setCell (Nat.le_refl _) _⟩

/-- NewInt of 0, 1, -1. -/
theorem newIntS_any (x : Int) (w : World) (hx : x = 0 ∨ x = 1 ∨ x = -1) : Calls Try.prog 67 #[.int .i64 x] w (RetNew x w) := by
  rcases hx with rfl | rfl | rfl
  · exact newInt_any 0 w (by omega)
  · exact newInt_any 1 w (by omega)
  · exact newIntM_any w

set_option maxRecDepth 100000 in
set_option maxHeartbeats 1000000 in
/-- angle.moebius -/
theorem moebius_any (n : Nat) (w : World) (h0 : 0 < n) (hn : n < 4611686018427387904) :
    Calls Try.prog 94 #[.int .i64 (n : Int)] w (RetVal (.int .i64 (moe n)) w) := by
  obtain ⟨L, hL⟩ : ∃ L, L = factorsL n := ⟨_, rfl⟩
  obtain ⟨Z, hZ⟩ : ∃ Z, Z = moe n := ⟨_, rfl⟩
  have hres : Hid (moeL L 1 = Z) := Lib.hid (by rw [hZ, hL]; rfl)
  have hlenL : L.length ≤ 4611686018427387904 := by
    have := facF_len n n 2
    rw [hL]
    unfold factorsL
    omega
  rw [← hZ]
  replace hL := Lib.hid hL
  have wn : IntKind.u64.wrap (n : Int) = (n : Int) := by rw [IntKind.wrap_u64]; omega
  clear hZ
  go_enter Try.func94, Try.ntmps94
  go_wp2_with fail
  refine (factors_any n _ h0 hn).mono ?_
  rintro e w1 ⟨v, rfl, hown, hB⟩
  rw [← hL.out] at hown
  by_cases hL0 : 0 < L.length
  · obtain ⟨g, cap, cur, rfl, hblk, hgb, hcur⟩ := fac_row hown hL0
    obtain ⟨len, hlen⟩ : ∃ len, len = L.length := ⟨_, rfl⟩
    rw [← hlen] at hcur hlenL ⊢
    replace hcur := Lib.hid hcur
    replace hlen := Lib.hid hlen
    clear hown hL hL0
    go_wp2_with fail
    go_loopw [3, 10] (fun x i wr => ∃ (X : Int) (k : Nat) (P M : List (Nat × Nat)), x = .int .i64 X ∧ i = .int .i64 (k : Int) ∧ P.length = k ∧ L = P ++ M ∧ (X = 1 ∨ X = -1) ∧ moeL M X = Z ∧ Blk wr g 164 cur ∧ Below w.heap.size w wr) (fun _ i _ => len - (intOf i).toNat)
    case atStart => exact ⟨1, 0, [], L, rfl, rfl, rfl, rfl, .inl rfl, hres.out, hblk, hB⟩
    case round =>
      obtain ⟨X, k, P, M, rfl, rfl, hP, hPM, hX, hm, hbr, hBr⟩ := hrel
      clear hblk hB
      rcases M with _ | ⟨⟨p, c⟩, M⟩
      · have hkl : k = len := by rw [hlen.out, hPM, List.append_nil, hP]
        subst hkl
        rw [moeL] at hm
        replace hm := Lib.hid hm
        replace hBr := Lib.hid hBr
        clear hbr hPM hP hX
        go_wp2_with fail
        go_ret
        exact ⟨by rw [← hm.out]; rfl, hBr.out⟩
      · have hjl : k < len := by rw [hlen.out, hPM, List.length_append, hP]; simp
        have hjI : (k : Int) < (len : Int) := by omega
        have hat := facC_at (M := M) (p := p) (c := c) hP
        have c0 : wr.cell? ⟨g, k * 2, none⟩ = some (.int .u64 (p : Int)) := by rw [Blk.cell hbr, hcur.out _ (by omega), hPM]; exact hat.1
        have c1 : wr.cell? ⟨g, k * 2 + 1, none⟩ = some (.int .i64 (c : Int)) := by rw [Blk.cell hbr, hcur.out _ (by omega), hPM]; exact hat.2
        have qg := Lib.hid (hbr.alloc (.cells #[.int .u64 (p : Int), .int .i64 (c : Int)] 164))
        have hB3 := Lib.hid (hBr.alloc hBr.size (.cells #[.int .u64 (p : Int), .int .i64 (c : Int)] 164))
        rw [moeL] at hm
        have hPM2 : Hid (L = (P ++ [(p, c)]) ++ M) := Lib.hid (by rw [hPM]; simp)
        have hP2 : Hid ((P ++ [(p, c)]).length = k + 1) := Lib.hid (by rw [List.length_append, hP]; rfl)
        by_cases hc : 1 < c
        · rw [if_pos hc] at hm
          replace hm := Lib.hid hm
          have hcI : (1 : Int) < (c : Int) := by omega
          clear hat hPM hP hX hbr hBr
          go_wp2_with fail
          go_ret
          exact ⟨by rw [← hm.out]; rfl, hB3.out⟩
        · rw [if_neg hc] at hm
          replace hm := Lib.hid hm
          have hcI : ¬ (1 : Int) < (c : Int) := by omega
          clear hat hPM hP hbr hBr hc
          rcases hX with rfl | rfl
          all_goals
            go_wp2_with fail
            go_roundw
            case rel => exact ⟨_, k + 1, P ++ [(p, c)], M, rfl, by go_num, hP2.out, hPM2.out, by decide, by simpa using hm.out, qg.out, hB3.out⟩
            case measure => simp [intOf]; omega
  · have hLn : L = [] := List.eq_nil_of_length_eq_zero (by omega)
    subst hLn
    have hv : v = .slice none 0 0 ∨ ∃ g2 cap2, v = .slice (some ⟨g2, 0, none⟩) 0 cap2 := by
      rcases hown.2 with ⟨h, _⟩ | ⟨g2, cap2, _, h, _⟩
      · exact .inl h
      · exact .inr ⟨g2, cap2, h⟩
    replace hB := Lib.hid hB
    clear hown hL
    rcases hv with rfl | ⟨g2, cap2, rfl⟩
    all_goals
      go_wp2_with fail
      go_loopw [3, 10] (fun x j wr => x = .int .i64 1 ∧ j = .int .i64 0 ∧ wr = w1) (fun _ _ _ => 0)
      case atStart => exact ⟨rfl, rfl, rfl⟩
      case round =>
        obtain ⟨rfl, rfl, rfl⟩ := hrel
        go_wp2_with fail
        go_ret
        exact ⟨by rw [← hres.out]; rfl, hB.out⟩

set_option maxRecDepth 100000 in
set_option maxHeartbeats 400000 in
/-- digits.size: how many bits. -/
theorem sizeD_any (v : Value) (N : Nat) (w : World) (hu : Dg w v N) (hlv : (dg N).length ≤ 1073741824) :
    Calls Try.prog 95 #[v] w fun e w' => e = .returned (.int .i64 ((bitsN N : Nat) : Int)) ∧ w = w' := by
  rcases Nat.eq_zero_or_pos N with h0 | h0
  · subst h0
    obtain ⟨A, c, rfl, h1, h2, h3⟩ := id hu
    have hu := Lib.hid hu
    clear h3
    simp only [dg_zero, List.length_nil]
    go_enter Try.func95, Try.ntmps95
    go_wp2_with fail
    go_ret
    exact ⟨rfl, rfl⟩
  · have hl := dg_len_pos h0
    obtain ⟨g, o, c, L, rfl, h1, h2, hA, hL⟩ := hu.open_ (fun e => by rw [e] at hl; simp at hl)
    obtain ⟨x, hx, hx2⟩ := getElem?_last (l := dg N) (fun e => by rw [e] at hl; simp at hl)
    have hxs := getElem?_dg hx
    have hc : w.cell? ⟨g, o + ((dg N).length - 1), none⟩ = some (.int .u32 (x : Int)) := hA.cell (hL _ _ hx)
    have hb := bitLen_spec hxs (dg_last N x hx2)
    have HB : Hid (bitsN N = 32 * ((dg N).length - 1) + Go.Lib.bitLen x) := Lib.hid (by
      unfold bitsN
      rw [List.getLastD_eq_getLast?, hx2]; rfl)
    obtain ⟨K, hK⟩ : ∃ K, K = (dg N).length := ⟨_, rfl⟩
    rw [← hK] at hlv hl hc HB h1 ⊢
    have hk0 : ((K : Int) == 0) = false := by simp; omega
    have hbl : Go.Lib.bitLen x ≤ 32 := hb.2.1
    clear hu hx hx2 hK hb
    go_enter Try.func95, Try.ntmps95
    go_wp2_with fail
    refine (Try.bits_Len32 (x : Int) _ (by omega) (by omega)).mono ?_
    rintro e w1 ⟨rfl, rfl⟩
    rw [Int.toNat_natCast]
    obtain ⟨b, hb⟩ : ∃ b, b = Go.Lib.bitLen x := ⟨_, rfl⟩
    rw [← hb] at hbl HB ⊢
    clear hb
    go_wp2
    go_ret
    exact ⟨by rw [HB.out]; simp; omega, rfl⟩

/-- The outcome: a number's bytes, in memory of the call's own. -/
def RetBytes (N : Nat) (w : World) (e : Ending) (w' : World) : Prop :=
  ∃ g, e = .returned (.slice (some ⟨g, 0, none⟩) (natL N).length (natL N).length) ∧ Arr w' g .u8 5 (natL N) ∧ w.heap.size ≤ g ∧ Below w.heap.size w w'

set_option maxRecDepth 100000 in
set_option maxHeartbeats 1000000 in
/-- Bytes -/
theorem bytesBig_any (p o N : Nat) (w : World) (hx : Big w p o (N : Int)) (hlen : (dg N).length ≤ 1073741) :
    Calls Try.prog 65 #[.pointer (some ⟨p, o, none⟩)] w (RetBytes N w) := by
  obtain ⟨v, hc1, hc2, h⟩ := hx.cells
  rw [Int.natAbs_natCast] at h
  obtain ⟨A, c, rfl, h1, h2, h3⟩ := id h
  have hplt := hx.slot.lt
  have hc2a : ∀ wr, Below w.heap.size w wr → wr.cell? ⟨p, o + 1, none⟩ = some (.slice A (dg N).length c) := fun wr hb => (hb.cell hplt).trans hc2
  replace hc2a := Lib.hid hc2a
  replace h := Lib.hid h
  replace h3 := Lib.hid h3
  obtain ⟨K, hK⟩ : ∃ K, K = (dg N).length := ⟨_, rfl⟩
  have hbn := nb_len_bitsN N
  have hdl : (nb N).length ≤ 4 * K := by rw [hK]; exact nb_len_le N
  rw [← hK] at h1 hlen hc2 hc2a
  have HK := Lib.hid hK
  obtain ⟨B, hB⟩ : ∃ B, B = bitsN N := ⟨_, rfl⟩
  have HB := Lib.hid hB
  obtain ⟨L, hL⟩ : ∃ L, L = (nb N).length := ⟨_, rfl⟩
  rw [← hL] at hbn hdl
  rw [← hB] at hbn
  have hLi : ((B : Int) + 7) / 8 = (L : Int) := by omega
  have hBs : B ≤ 50000000 := by omega
  have HL := Lib.hid hL
  have hmk := make_u8 L (by omega)
  have hvl : Hid (val (dg N) = N) := Lib.hid (val_dg N)
  clear hB hL hbn hc1 hx hK
  go_enter Try.func65, Try.ntmps65
  go_wp2_with fail
  have hD := Lib.hid h.out
  rw [HK.out]
  refine (sizeD_any _ N w h.out (by rw [← HK.out]; omega)).mono ?_
  rintro e w1 ⟨rfl, rfl⟩
  rw [← HB.out, ← HK.out]
  go_wp2_with fail
  have hA0 := Arr.new w .u8 5 (List.replicate L 0)
  have hB0 : Below w.heap.size w (w.alloc (.cells (ivs .u8 (List.replicate L 0)).toArray 5)) := (Below.refl _ _).alloc (Nat.le_refl _) _
  generalize hw0 : w.alloc (.cells (ivs .u8 (List.replicate L 0)).toArray 5) = w0 at hA0 hB0 ⊢
  generalize hg : w.heap.size = g at *
  have HG := Lib.hid hg
  clear hw0 hg hmk
  go_loopw [17] (fun i wr => ∃ (k : Nat) (O : List Nat), i = .int .i64 (k : Int) ∧ k ≤ L ∧ O.length = L ∧ (∀ x, x ∈ O → x < 256) ∧ (∀ t, t < k → O[L - 1 - t]? = some (N / 256 ^ t % 256)) ∧ Arr wr g .u8 5 O ∧ Below g w wr) (fun i _ => L - (intOf i).toNat)
  case atStart => exact ⟨0, _, rfl, Nat.zero_le _, by simp, fun x hx => by rw [List.eq_of_mem_replicate hx]; omega, fun t ht => absurd ht (by omega), hA0, hB0⟩
  case round =>
    obtain ⟨i, O, rfl, hi, hO, hOs, hOv, hA, hB⟩ := hrel
    have hO := Lib.hid hO
    have hOs := Lib.hid hOs
    have hOv := Lib.hid hOv
    by_cases h0 : i < L
    · obtain ⟨q, hq⟩ : ∃ q, q = i / 4 := ⟨_, rfl⟩
      have hqi : (i : Int) / 4 = (q : Int) := by omega
      obtain ⟨sh, hsh⟩ : ∃ sh, sh = 8 * (i % 4) := ⟨_, rfl⟩
      have hshi : (i : Int) % 4 * 8 = (sh : Int) := by omega
      have hsh32 : sh < 32 := by omega
      have hqK : q < K := by omega
      obtain ⟨x, hx⟩ : ∃ x, (dg N)[q]? = some x := ⟨_, List.getElem?_eq_getElem (by rw [← HK.out]; exact hqK)⟩
      have hxs : x < 4294967296 := (sm_dg N).get hx
      have hxv := digit_val (sm_dg N) hx
      obtain ⟨ga, oa, ca, La, ea, -, -, hAa, hLa⟩ := h.out.open_ (fun e => by have := HK.out; rw [e] at this; simp at this; omega)
      injection ea with ea1 _ ea2
      subst ea1 ea2
      have hcp : wr.cell? ⟨p, o + 1, none⟩ = some (.slice (some ⟨ga, oa, none⟩) K c) := hc2a.out wr hB
      have hcx : wr.cell? ⟨ga, oa + q, none⟩ = some (.int .u32 (x : Int)) := (hB.cell (by have := hAa.lt; rw [HG.out] at this; exact this)).trans (hAa.cell (hLa _ _ hx))
      obtain ⟨k, hk⟩ : ∃ k, k = L - 1 - i := ⟨_, rfl⟩
      have hki : (L : Int) - 1 - (i : Int) = (k : Int) := by omega
      have hkL : k < L := by omega
      obtain ⟨y, hy⟩ : ∃ y, O[k]? = some y := ⟨_, List.getElem?_eq_getElem (by rw [hO.out]; exact hkL)⟩
      have hcy : wr.cell? ⟨g, k, none⟩ = some (.int .u8 (y : Int)) := hA.cell hy
      have hfy : wr.frozen? ⟨g, k, none⟩ = false := hA.frozen _
      obtain ⟨z, hz⟩ : ∃ z, z = x / 2 ^ sh := ⟨_, rfl⟩
      have hzi : (x : Int) / 2 ^ sh = (z : Int) := by rw [hz]; push_cast; rfl
      have hzs : z < 4294967296 := by rw [hz]; exact Nat.lt_of_le_of_lt (Nat.div_le_self _ _) hxs
      obtain ⟨b, hb⟩ : ∃ b, b = z % 256 := ⟨_, rfl⟩
      have hbi : (z : Int) % 256 = (b : Int) := by rw [hb]; rfl
      have hbs : b < 256 := by omega
      have hbv : b = N / 256 ^ i % 256 := by
        rw [hb, hz, hxv, hsh, byte_of _ _ _ (by omega), hvl.out, hq, show 4 * (i / 4) + i % 4 = i by omega]
      have HV2 : Hid (∀ t, t < i + 1 → (O.set k b)[L - 1 - t]? = some (N / 256 ^ t % 256)) := Lib.hid (fun t ht => by
        by_cases hti : t = i
        · subst hti
          rw [← hk, List.getElem?_set_self (by rw [hO.out]; exact hkL), hbv]
        · rw [List.getElem?_set_ne (by omega)]
          exact hOv.out t (by omega))
      have HS2 : Hid (∀ x, x ∈ O.set k b → x < 256) := Lib.hid (fun x hx => by
        rcases List.mem_or_eq_of_mem_set hx with h1 | h1
        · exact hOs.out x h1
        · rw [h1]; exact hbs)
      clear hx hq hsh hy hz hb hk hxv hbv
      go_wp2_with fail
      go_roundw
      case rel => exact ⟨i + 1, O.set k b, by go_num, by omega, by rw [List.length_set]; exact hO.out, HS2.out, HV2.out, hA.set_ _ _, hB.setCell (Nat.le_refl _) _⟩
      case measure => simp [intOf]; omega
    · obtain rfl : i = L := by omega
      have HO : Hid (O = natL N) := Lib.hid (natL_of (by rw [hO.out, HL.out]) (fun t ht => by rw [← HL.out] at ht ⊢; exact hOv.out t ht))
      have HLn : Hid (i = (natL N).length) := Lib.hid (by rw [natL_len, HL.out])
      rw [HO.out] at hA
      replace hA := Lib.hid hA
      replace hB := Lib.hid hB
      go_wp2_with fail
      go_ret
      exact ⟨g, by rw [← HLn.out]; rfl, hA.out, by rw [HG.out]; exact Nat.le_refl _, by rw [HG.out]; exact hB.out⟩
end Go.Proofs.Ytciafmnideihjaa
