import Derived.Test.YtoaggmegmgdgbaaGreatWideG
import Derived.Test.YtoaggmegmgdgbaaGreatNatC
import Derived.Deep.CutRange
namespace Go.Proofs.YtoaggmegmgdgbaaGreat
open Go.RowKit Go.Sort
set_option maxHeartbeats 400000 in
theorem sizeD_any (v : Value) (N : Nat) (w : World) (hu : Dg w v N) (hlv : (dg N).length ≤ 1073741824) :
    Calls Tryz.prog 196 #[v] w fun e w' => e = .returned (.int .i64 ((bitsN N : Nat) : Int)) ∧ w = w' := by
  rcases Nat.eq_zero_or_pos N with h0 | h0
  · subst h0
    obtain ⟨A, c, rfl, h1, h2, h3⟩ := id hu
    have hu := Lib.hid hu
    clear h3
    simp only [dg_zero, List.length_nil]
    go_enter Tryz.func196, Tryz.ntmps196
    go_wp2
    go_ret
    exact ⟨rfl, rfl⟩
  · have hl := dg_len_pos h0
    obtain ⟨g, o, c, L, rfl, h1, h2, hA, hL⟩ := hu.open_ (fun e => by rw [e] at hl; simp at hl)
    obtain ⟨x, hx, hx2⟩ := getElem?_last (l := dg N) (fun e => by rw [e] at hl; simp at hl)
    have hxs := getElem?_dg hx
    have hc : w.cell? ⟨g, o + ((dg N).length - 1), none⟩ = some (.int .u32 (x : Int)) := hA.cell (hL _ _ hx)
    have hb := bitLen_spec hxs (dg_last N x hx2)
    have HB : Hid (bitsN N = 32 * ((dg N).length - 1) + Go.Lib.bitLen x) := Lib.hid (by
      unfold bitsN
      rw [List.getLastD_eq_getLast?, hx2]; rfl)
    obtain ⟨K, hK⟩ : ∃ K, K = (dg N).length := ⟨_, rfl⟩
    rw [← hK] at hlv hl hc HB h1 ⊢
    have hk0 : ((K : Int) == 0) = false := by simp; omega
    have hbl : Go.Lib.bitLen x ≤ 32 := hb.2.1
    clear hu hx hx2 hK hb
    go_enter Tryz.func196, Tryz.ntmps196
    go_wp2_with fail
    refine (Tryz.bits_Len32 (x : Int) _ (by omega) (by omega)).mono ?_
    rintro e w1 ⟨rfl, rfl⟩
    rw [Int.toNat_natCast]
    obtain ⟨b, hb⟩ : ∃ b, b = Go.Lib.bitLen x := ⟨_, rfl⟩
    rw [← hb] at hbl HB ⊢
    clear hb
    go_wp2
    go_ret
    exact ⟨by rw [HB.out]; simp; omega, rfl⟩
def RetBytes (n : Nat) (w : World) (e : Ending) (w' : World) : Prop :=
  ∃ g, e = .returned (.slice (some ⟨g, 0, none⟩) (nb n).length (nb n).length) ∧ w.heap.size ≤ g ∧ Arr w' g .u8 5 (natL n) ∧ Below w.heap.size w w'
set_option maxRecDepth 100000 in
set_option maxHeartbeats 800000 in
theorem bytesBig_any (p o : Nat) (z : Int) (w : World) (hx : Big w p o z) (hnl : (dg z.natAbs).length ≤ 1073741823) :
    Calls Tryz.prog 158 #[.pointer (some ⟨p, o, none⟩)] w (RetBytes z.natAbs w) := by
  obtain ⟨N, hN⟩ : ∃ N, N = z.natAbs := ⟨_, rfl⟩
  obtain ⟨v, -, hc2, hv⟩ := hx.cells
  have hp := Lib.hid hx.slot.lt
  rw [← hN] at hv hnl ⊢
  clear hx hN
  obtain ⟨A, ca, rfl, h1, h2, h3⟩ := id hv
  have hsz := Lib.hid (sizeD_any _ N w hv (by omega))
  have h := Lib.hid hv
  clear h3 hv
  obtain ⟨K, hK⟩ : ∃ K, K = (dg N).length := ⟨_, rfl⟩
  have hbn := nb_len_bitsN N
  have hdl := nb_len_le N
  rw [← hK] at h1 hnl hc2 hsz hdl
  have HK := Lib.hid hK
  obtain ⟨B, hB⟩ : ∃ B, B = bitsN N := ⟨_, rfl⟩
  rw [← hB] at hbn hsz
  obtain ⟨L, hL⟩ : ∃ L, L = (nb N).length := ⟨_, rfl⟩
  rw [← hL] at hbn hdl
  have hLi : ((B : Int) + 7) / 8 = (L : Int) := by omega
  have hBs : B ≤ 34359738368 := by omega
  have HL := Lib.hid hL
  have hmk := make_u8 L (by omega)
  clear hB hL hbn hK
  go_enter Tryz.func158, Tryz.ntmps158
  go_wp2_with fail
  refine hsz.out.mono ?_
  rintro e w1 ⟨rfl, rfl⟩
  clear hsz
  go_wp2
  have hA0 := Arr.new w .u8 5 (List.replicate L 0)
  have hB0 : Below w.heap.size w (w.alloc (.cells (ivs .u8 (List.replicate L 0)).toArray 5)) := (Below.refl _ _).alloc (Nat.le_refl _) _
  generalize hw0 : w.alloc (.cells (ivs .u8 (List.replicate L 0)).toArray 5) = w0 at hA0 hB0 ⊢
  generalize hg : w.heap.size = g at *
  have HG := Lib.hid hg
  clear hw0 hg hmk
  go_loopw [5, 17] (fun _ i wr => ∃ (k : Nat) (O : List Nat), i = .int .i64 (k : Int) ∧ k ≤ L ∧ O.length = L ∧ (∀ x, x ∈ O → x < 256) ∧ (∀ t, t < k → O[L - 1 - t]? = some (N / 256 ^ t % 256)) ∧ Arr wr g .u8 5 O ∧ Below g w wr) (fun _ i _ => L - (intOf i).toNat)
  case atStart => exact ⟨0, _, rfl, Nat.zero_le _, by simp, fun x hx => by rw [List.eq_of_mem_replicate hx]; omega, fun t ht => absurd ht (by omega), hA0, hB0⟩
  case round =>
    obtain ⟨i, O, rfl, hi, hO, hOs, hOv, hA, hB⟩ := hrel
    have hO := Lib.hid hO
    have hOs := Lib.hid hOs
    have hOv := Lib.hid hOv
    by_cases h0 : i < L
    · obtain ⟨q, hq⟩ : ∃ q, q = i / 4 := ⟨_, rfl⟩
      have hqi : (i : Int) / 4 = (q : Int) := by omega
      obtain ⟨sh, hsh⟩ : ∃ sh, sh = 8 * (i % 4) := ⟨_, rfl⟩
      have hshi : (i : Int) % 4 * 8 = (sh : Int) := by omega
      have hsh32 : sh < 32 := by omega
      have hqK : q < K := by omega
      obtain ⟨x, hx⟩ : ∃ x, (dg N)[q]? = some x := ⟨_, List.getElem?_eq_getElem (by rw [← HK.out]; exact hqK)⟩
      have hxs : x < 4294967296 := getElem?_dg hx
      have hxv := digit_val (sm_dg N) hx
      rw [val_dg] at hxv
      obtain ⟨ga, oa, ca, La, ea, -, -, hAa, hLa⟩ := h.out.open_ (fun e => by have := HK.out; rw [e] at this; simp at this; omega)
      injection ea with ea1 _ ea2
      subst ea1 ea2
      have hcd : wr.cell? ⟨p, o + 1, none⟩ = some (.slice (some ⟨ga, oa, none⟩) K ca) := (hB.cell hp.out).trans hc2
      have hcx : wr.cell? ⟨ga, oa + q, none⟩ = some (.int .u32 (x : Int)) := (hB.cell (by have := hAa.lt; rw [HG.out] at this; exact this)).trans (hAa.cell (hLa _ _ hx))
      obtain ⟨k, hk⟩ : ∃ k, k = L - 1 - i := ⟨_, rfl⟩
      have hki : (L : Int) - 1 - (i : Int) = (k : Int) := by omega
      have hkL : k < L := by omega
      obtain ⟨y, hy⟩ : ∃ y, O[k]? = some y := ⟨_, List.getElem?_eq_getElem (by rw [hO.out]; exact hkL)⟩
      have hcy : wr.cell? ⟨g, k, none⟩ = some (.int .u8 (y : Int)) := hA.cell hy
      have hfy : wr.frozen? ⟨g, k, none⟩ = false := hA.frozen _
      obtain ⟨z, hz⟩ : ∃ z, z = x / 2 ^ sh := ⟨_, rfl⟩
      have hzi : (x : Int) / 2 ^ sh = (z : Int) := by rw [hz]; push_cast; rfl
      have hzs : z < 4294967296 := by rw [hz]; exact Nat.lt_of_le_of_lt (Nat.div_le_self _ _) hxs
      obtain ⟨b, hb⟩ : ∃ b, b = z % 256 := ⟨_, rfl⟩
      have hbi : (z : Int) % 256 = (b : Int) := by rw [hb]; rfl
      have hbs : b < 256 := by omega
      have hbv : b = N / 256 ^ i % 256 := by
        rw [hb, hz, hxv, hsh, byte_of _ _ _ (by omega), hq, show 4 * (i / 4) + i % 4 = i by omega]
      have HV2 : Hid (∀ t, t < i + 1 → (O.set k b)[L - 1 - t]? = some (N / 256 ^ t % 256)) := Lib.hid (fun t ht => by
        by_cases hti : t = i
        · subst hti
          rw [← hk, List.getElem?_set_self (by rw [hO.out]; exact hkL), hbv]
        · rw [List.getElem?_set_ne (by omega)]
          exact hOv.out t (by omega))
      have HS2 : Hid (∀ x, x ∈ O.set k b → x < 256) := Lib.hid (fun x hx => by
        rcases List.mem_or_eq_of_mem_set hx with h1 | h1
        · exact hOs.out x h1
        · rw [h1]; exact hbs)
      clear hx hq hsh hy hz hb hk hxv hbv
      go_wp2
      go_roundw
      case rel => exact ⟨i + 1, O.set k b, by go_num, by omega, by rw [List.length_set]; exact hO.out, HS2.out, HV2.out, hA.set_ _ _, hB.setCell (Nat.le_refl _) _⟩
      case measure => simp [intOf]; omega
    · obtain rfl : i = L := by omega
      have HO : Hid (O = natL N) := Lib.hid (natL_of (by rw [hO.out, HL.out]) (fun t ht => by rw [← HL.out] at ht ⊢; exact hOv.out t ht))
      go_wp2
      go_ret
      exact ⟨g, by rw [← HL.out]; rfl, by rw [HG.out]; exact Nat.le_refl _, by rw [← HO.out]; exact hA, by rw [HG.out]; exact hB⟩
set_option maxHeartbeats 400000 in
theorem laidR_any (p o : Nat) (z : Int) (w : World) (hx : Big w p o z) (hnl : (dg z.natAbs).length ≤ 1073741823) :
    Calls Tryz.prog 118 #[.pointer (some ⟨p, o, none⟩)] w fun e w' => e = .returned (.string (natS z.natAbs)) ∧ Below w.heap.size w w' := by
  have hb := Lib.hid (bytesBig_any p o z w hx hnl)
  obtain ⟨N, hN⟩ : ∃ N, N = z.natAbs := ⟨_, rfl⟩
  rw [← hN] at hb ⊢
  clear hx hnl hN
  go_enter Tryz.func118, Tryz.ntmps118
  go_wp2_with fail
  refine hb.out.mono ?_
  rintro e w1 ⟨g, rfl, -, hA, hbel⟩
  have hcv := conv_str w1 g (natL N) (nb N).length hA natL_lt 24 Tryz.underlying24
  rw [natL_len] at hcv
  have HB := Lib.hid hbel
  clear hbel hb hA
  go_wp2
  go_ret
  exact ⟨rfl, HB.out⟩
set_option maxHeartbeats 400000 in
theorem absBig_any (p o pa oa : Nat) (x : Int) (w : World) (h : BS w p o) (hx : Big w pa oa x) :
    Calls Tryz.prog 119 #[.pointer (some ⟨p, o, none⟩), .pointer (some ⟨pa, oa, none⟩)] w (RetBig (x.natAbs : Int) p o w) := by
  obtain ⟨v, -, hc2, hv⟩ := hx.cells
  have hl := Lib.hid (laid_any p o x.natAbs false v w h hv)
  clear hx hv h
  go_enter Tryz.func119, Tryz.ntmps119
  go_wp2_with fail
  refine hl.out.mono ?_
  rintro e w1 ⟨rfl, hb, hg⟩
  have hb := Lib.hid hb
  have hg := Lib.hid hg
  clear hl
  go_wp2
  go_ret
  exact ⟨rfl, hb.out, hg.out⟩
end Go.Proofs.YtoaggmegmgdgbaaGreat
