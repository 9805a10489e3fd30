/- Package wide: SetBytes. -/
import Derived.Test.YtciafmnideihjaaBig2
import Derived.Test.YtciafmnideihjaaBytes
namespace Go.Proofs.Ytciafmnideihjaa
open Go.RowKit

set_option maxRecDepth 100000 in
set_option maxHeartbeats 400000 in
/-- SetBytes -/
theorem setBytes_any (p o : Nat) (v : Value) (l : List Nat) (w : World) (h : BS w p o) (hv : Rd .u8 5 w v l) (hl : ∀ x, x ∈ l → x < 256) (hlen : l.length ≤ 1073741824) :
    Calls Try.prog 126 #[.pointer (some ⟨p, o, none⟩), v] w (RetBig ((be l : Nat) : Int) p o w) := by
  obtain ⟨A, c, rfl, h1, h2, h3⟩ := id hv
  have h := Lib.hid h
  have hv := Lib.hid hv
  have h3 := Lib.hid h3
  have hl := Lib.hid hl
  obtain ⟨n, hn⟩ : ∃ n, n = l.length := ⟨_, rfl⟩
  rw [← hn] at h1 hlen ⊢
  have Hn := Lib.hid hn
  clear hn
  obtain ⟨m, hm⟩ : ∃ m, m = n / 4 := ⟨_, rfl⟩
  have hmi : (n : Int) / 4 = (m : Int) := by omega
  have hmk : ∀ w : World, (Instr.makeSlice 118 (.int .i64 ((m : Int) + 1)) (.int .i64 ((m : Int) + 1))).run Try.prog w = .ok (.slice (some ⟨w.heap.size, 0, none⟩) (m + 1) (m + 1)) (w.alloc (.cells (ivs .u32 (List.replicate (m + 1) 0)).toArray 143)) := fun w => make_u32 (m + 1) (by omega) w
  have HM := Lib.hid hm
  clear hm
  go_enter Try.func126, Try.ntmps126
  go_wp2
  have hA0 := Arr.new w .u32 143 (List.replicate (m + 1) 0)
  have hB0 : Below w.heap.size w (w.alloc (.cells (ivs .u32 (List.replicate (m + 1) 0)).toArray 143)) := (Below.refl _ _).alloc (Nat.le_refl _) _
  generalize hw0 : w.alloc (.cells (ivs .u32 (List.replicate (m + 1) 0)).toArray 143) = w0 at hA0 hB0 ⊢
  generalize hg : w.heap.size = g at *
  have HG := Lib.hid hg
  clear hw0 hg hmk
  go_loopw [16] (fun i wr => ∃ (k : Nat) (D : List Nat), i = .int .i64 (k : Int) ∧ k ≤ n ∧ D.length = m + 1 ∧ Sm D ∧ val D = be (l.take k) * 256 ^ (n - k) ∧ Arr wr g .u32 143 D ∧ Below g w wr) (fun i _ => n - (intOf i).toNat)
  case atStart => exact ⟨0, _, rfl, Nat.zero_le _, by simp, sm_replicate _, by rw [val_replicate]; simp [be], hA0, hB0⟩
  case round =>
    obtain ⟨i, D, rfl, hi, hD, hS, hV, hA, hB⟩ := hrel
    have hV := Lib.hid hV
    have hD := Lib.hid hD
    by_cases h0 : i < n
    · obtain ⟨x, hx⟩ : ∃ x, l[i]? = some x := ⟨_, List.getElem?_eq_getElem (by rw [← Hn.out]; omega)⟩
      have hxs : x < 256 := hl.out x (List.mem_of_getElem? hx)
      obtain ⟨ga, oa, ca, La, ea, -, -, hAa, hLa⟩ := hv.out.open_ (fun e => by have := Hn.out; rw [e] at this; simp at this; omega)
      injection ea with ea1 _ ea2
      subst ea1 ea2
      have hcx : wr.cell? ⟨ga, oa + i, none⟩ = some (.int .u8 (x : Int)) := (hB.cell (by have := hAa.lt; rw [HG.out] at this; exact this)).trans (hAa.cell (hLa _ _ hx))
      obtain ⟨k, hk⟩ : ∃ k, k = n - 1 - i := ⟨_, rfl⟩
      have hki : (n : Int) - 1 - (i : Int) = (k : Int) := by omega
      obtain ⟨q, hq⟩ : ∃ q, q = k / 4 := ⟨_, rfl⟩
      have hqi : (k : Int) / 4 = (q : Int) := by omega
      have hqm : q < m + 1 := by have := HM.out; omega
      obtain ⟨sh, hsh⟩ : ∃ sh, sh = k % 4 * 8 := ⟨_, rfl⟩
      have hshi : (k : Int) % 4 * 8 = (sh : Int) := by omega
      have hsh32 : sh < 32 := by omega
      obtain ⟨y, hy⟩ : ∃ y, D[q]? = some y := ⟨_, List.getElem?_eq_getElem (by rw [hD.out]; exact hqm)⟩
      have hys := hS.get hy
      have hb := byte_place (k := k) (c := x) hS (by rw [hV.out, show n - i = k + 1 by omega]) hxs (by rw [← hq]; exact hy)
      rw [← hq, ← hsh] at hb
      obtain ⟨C, hC⟩ : ∃ C, C = x * 2 ^ sh := ⟨_, rfl⟩
      rw [← hC] at hb
      have hCi : (x : Int) * 2 ^ sh = (C : Int) := by rw [hC]; push_cast; rfl
      have hCs : C < 4294967296 := hb.1
      obtain ⟨R, hR⟩ : ∃ R, R = y + C := ⟨_, rfl⟩
      rw [← hR] at hb
      have hor : bits .or .u32 (y : Int) (C : Int) = (R : Int) := by rw [or32_nat y C hys hCs, hb.2.1]
      have hRs : R < 4294967296 := hb.2.2.1
      have hcy : wr.cell? ⟨g, q, none⟩ = some (.int .u32 (y : Int)) := hA.cell hy
      have hfy : wr.frozen? ⟨g, q, none⟩ = false := hA.frozen _
      have HV2 : Hid (val (D.set q R) = be (l.take (i + 1)) * 256 ^ (n - (i + 1))) := Lib.hid (by
        rw [hb.2.2.2, be_take_succ hx, show n - (i + 1) = k by omega])
      clear hx hk hq hsh hy hb hC hR
      go_wp2
      go_roundw
      case rel => exact ⟨i + 1, D.set q R, by go_num, by omega, by rw [List.length_set]; exact hD.out, hS.set_ hRs, HV2.out, hA.set_ _ _, hB.setCell (Nat.le_refl _) _⟩
      case measure => simp [intOf]; omega
    · obtain rfl : i = n := by omega
      have HV2 : Hid (val D = be l) := Lib.hid (by rw [hV.out, Nat.sub_self, Nat.pow_zero, Nat.mul_one, Hn.out, List.take_length])
      have hR : Rd .u32 143 wr (.slice (some ⟨g, 0, none⟩) (m + 1) (m + 1)) D := by
        have := Rd.whole hA (by rw [hD.out]; unfold maxLen; omega)
        rwa [hD.out] at this
      go_wp2_with fail
      refine (cut_any _ D wr hR hS).mono ?_
      rintro e w1 ⟨u, rfl, hu, rfl⟩
      rw [HV2.out] at hu
      have hu := Lib.hid hu
      have hBB : Below w.heap.size w wr := by rw [HG.out]; exact hB
      have hBB := Lib.hid hBB
      go_wp2_with fail
      refine (laid_any p o _ false u wr (h.out.below hBB.out) hu.out).mono ?_
      rintro e w2 ⟨rfl, hb2, hg⟩
      have hb2 := Lib.hid hb2
      have hg := Lib.hid hg
      go_wp2
      go_ret
      exact ⟨rfl, hb2.out, gb_trans (gb_of_below hBB.out) hg.out⟩
end Go.Proofs.Ytciafmnideihjaa
