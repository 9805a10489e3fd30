/- Package nat: shut, Of: a number's string. -/
import Derived.Test.YtciafmnideihjaaNatB
namespace Go.Proofs.Ytciafmnideihjaa
open Go.RowKit

/-- A number's string: its bytes, the highest first. -/
def natS (n : Nat) : ByteArray := ⟨((natL n).map UInt8.ofNat).toArray⟩
theorem sl_mk (l : List Nat) (h : ∀ x, x ∈ l → x < 256) : sl ⟨(l.map UInt8.ofNat).toArray⟩ = l := by
  simp only [sl, List.map_map]
  rw [List.map_congr_left (g := id) (fun x hx => by simp; exact h x hx)]
  simp
theorem natL_lt {n : Nat} : ∀ x, x ∈ natL n → x < 256 := fun x hx => nb_lt x (by simpa [natL] using hx)
theorem sl_natS (n : Nat) : sl (natS n) = natL n := sl_mk _ natL_lt
theorem natS_size (n : Nat) : (natS n).size = (nb n).length := by rw [← sl_len, sl_natS, natL_len]
theorem be_natS (n : Nat) : be (sl (natS n)) = n := by rw [sl_natS, be_natL]
theorem mayB_natS {n : Nat} (h : (nb n).length ≤ 16384) : mayB (natS n) = true := by
  have h1 := natL_head (n := n)
  simp [mayB, natS_size, sl_natS, h, h1]
theorem sl_inj {s t : ByteArray} (h : sl s = sl t) : s = t := by
  have h1 : s.data.toList = t.data.toList := by
    have := congrArg (List.map UInt8.ofNat) h
    simpa [sl, Function.comp_def] using this
  cases s; cases t
  congr 1
  exact Array.toList_inj.1 h1
theorem natS_be {s : ByteArray} (h : mayB s = true) : natS (be (sl s)) = s := by
  apply sl_inj
  rw [sl_natS]
  refine natL_be (sl_lt s) ?_
  simp [mayB] at h
  exact h.2

theorem info_u8 : (Try.prog.info? 5).map (fun i => (i.zero, i.size, i.bytes)) = some (some (.int .u8 0), 1, 1) := by kernel_rfl
/-- make([]byte, n) -/
theorem make_u8 (n : Nat) (hn : n ≤ 4294967296) (w : World) :
    (Instr.makeSlice 81 (.int .i64 (n : Int)) (.int .i64 (n : Int))).run Try.prog w = .ok (.slice (some ⟨w.heap.size, 0, none⟩) n n) (w.alloc (.cells (ivs .u8 (List.replicate n 0)).toArray 5)) := by
  obtain ⟨i, hi, hz0, hz1, hz2⟩ := info_parts info_u8
  have h1 : (i.bytes : Int) * (n : Int) ≤ 281474976710656 := by rw [hz2]; omega
  have hr := run_make (P := Try.prog) w 81 5 i _ Try.underlying81 hi hz0 .i64 .i64 n n (by omega) (Int.le_refl _) h1 (by omega)
  simp only [Int.toNat_natCast, hz1, Nat.mul_one] at hr
  rw [hr, show (Value.int IntKind.u8 0).cells = #[Value.int IntKind.u8 0] from rfl, made_zeros]

/-- string(b), of a row of the call's own. -/
theorem conv_str (w : World) (g : Nat) (L : List Nat) (c : Nat) (hA : Arr w g .u8 5 L) (hL : ∀ x, x ∈ L → x < 256) (T : TypeId) (hT : Try.prog.underlying T = some .string) :
    (convert 81 T (.slice (some ⟨g, 0, none⟩) L.length c)).run Try.prog w = .ok (.string ⟨(L.map UInt8.ofNat).toArray⟩) w := by
  have h := run_convert_bytes_back (P := Try.prog) w 81 T 5 ⟨g, 0, none⟩ c (L.map UInt8.ofNat) Try.underlying81 Try.underlying5 hT (fun j hj => by
    have hj' : j < L.length := by simpa using hj
    have hx : L[j]? = some L[j] := List.getElem?_eq_getElem hj'
    have e : ((L.map UInt8.ofNat)[j].toNat : Int) = (L[j] : Int) := by
      rw [List.getElem_map]
      have := hL L[j] (List.getElem_mem hj')
      simp
      omega
    rw [e]
    have hc := hA.cell hx
    unfold Addr.add
    split
    · rename_i h0; subst h0; exact hc
    · simpa using hc)
  simpa using h

theorem byte_of (V q r : Nat) (hr : r < 4) : V / 4294967296 ^ q % 4294967296 / 2 ^ (8 * r) % 256 = V / 256 ^ (4 * q + r) % 256 := by
  have e : (256 : Nat) ^ (4 * q + r) = 4294967296 ^ q * 2 ^ (8 * r) := by
    rw [show (256 : Nat) = 2 ^ 8 from rfl, show (4294967296 : Nat) = 2 ^ 32 from rfl, ← Nat.pow_mul, ← Nat.pow_mul, ← Nat.pow_add]
    congr 1; omega
  rw [e, ← Nat.div_div_eq_div_mul]
  generalize V / 4294967296 ^ q = Y
  have e2 : (4294967296 : Nat) = 2 ^ (8 * r) * 2 ^ (32 - 8 * r) := by rw [← Nat.pow_add, show 8 * r + (32 - 8 * r) = 32 by omega]
  have e3 : 2 ^ (32 - 8 * r) = 256 * 2 ^ (24 - 8 * r) := by rw [show (256 : Nat) = 2 ^ 8 from rfl, ← Nat.pow_add, show 8 + (24 - 8 * r) = 32 - 8 * r by omega]
  rw [e2, Nat.mod_mul_right_div_self, e3, Nat.mod_mul_right_mod]

theorem nb_len_le (n : Nat) : (nb n).length ≤ 4 * (dg n).length := by
  rcases Nat.eq_zero_or_pos n with h | h
  · subst h; simp [nb_zero]
  · have h1 := (nb_bounds h).1
    have h2 := dg_lt n
    rcases Nat.lt_or_ge (4 * (dg n).length) (nb n).length with h3 | h3
    · exfalso
      have e : (4294967296 : Nat) ^ (dg n).length = 256 ^ (4 * (dg n).length) := by rw [show (4294967296 : Nat) = 256 ^ 4 from rfl, ← Nat.pow_mul]
      rw [e] at h2
      have : 256 ^ (4 * (dg n).length) ≤ 256 ^ ((nb n).length - 1) := Nat.pow_le_pow_right (by omega) (by omega)
      omega
    · exact h3

/-- The row of bytes when all are written. -/
theorem natL_of {N : Nat} {O : List Nat} (hl : O.length = (nb N).length) (h : ∀ t, t < (nb N).length → O[(nb N).length - 1 - t]? = some (N / 256 ^ t % 256)) : O = natL N := by
  apply List.ext_getElem?
  intro j
  by_cases hj : j < (nb N).length
  · have h1 := h ((nb N).length - 1 - j) (by omega)
    rw [show (nb N).length - 1 - ((nb N).length - 1 - j) = j by omega] at h1
    rw [h1]
    unfold natL
    rw [List.getElem?_reverse hj, nb_get (by omega)]
  · rw [List.getElem?_eq_none (by omega), List.getElem?_eq_none (by rw [natL_len]; omega)]

/-- The outcome of 'shut'. -/
def RetShut (n : Nat) (w : World) (e : Ending) (w' : World) : Prop := e = .returned (.tuple #[.string (natS n), .int .i64 0]) ∧ Below w.heap.size w w'

set_option maxRecDepth 100000 in
set_option maxHeartbeats 400000 in
/-- limbs.shut, of what is not too long. -/
theorem shut_any (v : Value) (l : List Nat) (w : World) (h : Rd .u32 143 w v l) (hs : Sm l) (hlen : l.length ≤ 1073741824) (hnb : (nb (val l)).length ≤ 16384) :
    Calls Try.prog 118 #[v] w (RetShut (val l) w) := by
  obtain ⟨A, c, rfl, h1, h2, h3⟩ := id h
  have h := Lib.hid h
  have h3 := Lib.hid h3
  obtain ⟨K, hK⟩ : ∃ K, K = l.length := ⟨_, rfl⟩
  have hbn := nb_len_bitsN (val l)
  have hdl : (nb (val l)).length ≤ 4 * K := by
    have e1 := nb_len_le (val l)
    have e2 := dg_len_le_of_lt (val_lt hs)
    omega
  rw [← hK] at h1 ⊢
  have HK := Lib.hid hK
  obtain ⟨N, hN⟩ : ∃ N, N = val l := ⟨_, rfl⟩
  rw [← hN] at hnb hbn hdl ⊢
  have HN := Lib.hid hN
  obtain ⟨B, hB⟩ : ∃ B, B = bitsN N := ⟨_, rfl⟩
  have HB := Lib.hid hB
  obtain ⟨L, hL⟩ : ∃ L, L = (nb N).length := ⟨_, rfl⟩
  rw [← hL] at hnb hbn hdl
  rw [← hB] at hbn
  have hLi : ((B : Int) + 7) / 8 = (L : Int) := by omega
  have hBs : B ≤ 200000 := by omega
  have HL := Lib.hid hL
  have hmk := make_u8 L (by omega)
  clear hN hB hL hbn hK
  go_enter Try.func118, Try.ntmps118
  go_wp2_with fail
  refine (lenL_any _ l w (by have := h.out; rw [← HK.out] at this; exact this) hs hlen).mono ?_
  rintro e w1 ⟨rfl, rfl⟩
  rw [← HN.out, ← HB.out]
  go_wp2
  have hA0 := Arr.new w .u8 5 (List.replicate L 0)
  have hB0 : Below w.heap.size w (w.alloc (.cells (ivs .u8 (List.replicate L 0)).toArray 5)) := (Below.refl _ _).alloc (Nat.le_refl _) _
  generalize hw0 : w.alloc (.cells (ivs .u8 (List.replicate L 0)).toArray 5) = w0 at hA0 hB0 ⊢
  generalize hg : w.heap.size = g at *
  have HG := Lib.hid hg
  clear hw0 hg hmk
  go_loopw [16] (fun i wr => ∃ (k : Nat) (O : List Nat), i = .int .i64 (k : Int) ∧ k ≤ L ∧ O.length = L ∧ (∀ x, x ∈ O → x < 256) ∧ (∀ t, t < k → O[L - 1 - t]? = some (N / 256 ^ t % 256)) ∧ Arr wr g .u8 5 O ∧ Below g w wr) (fun i _ => L - (intOf i).toNat)
  case atStart => exact ⟨0, _, rfl, Nat.zero_le _, by simp, fun x hx => by rw [List.eq_of_mem_replicate hx]; omega, fun t ht => absurd ht (by omega), hA0, hB0⟩
  case round =>
    obtain ⟨i, O, rfl, hi, hO, hOs, hOv, hA, hB⟩ := hrel
    have hO := Lib.hid hO
    have hOs := Lib.hid hOs
    have hOv := Lib.hid hOv
    by_cases h0 : i < L
    · obtain ⟨q, hq⟩ : ∃ q, q = i / 4 := ⟨_, rfl⟩
      have hqi : (i : Int) / 4 = (q : Int) := by omega
      obtain ⟨sh, hsh⟩ : ∃ sh, sh = 8 * (i % 4) := ⟨_, rfl⟩
      have hshi : 8 * ((i : Int) % 4) = (sh : Int) := by omega
      have hsh32 : sh < 32 := by omega
      have hqK : q < K := by omega
      obtain ⟨x, hx⟩ : ∃ x, l[q]? = some x := ⟨_, List.getElem?_eq_getElem (by rw [← HK.out]; exact hqK)⟩
      have hxs : x < 4294967296 := hs.get hx
      have hxv := digit_val hs hx
      obtain ⟨ga, oa, ca, La, ea, -, -, hAa, hLa⟩ := h.out.open_ (fun e => by have := HK.out; rw [e] at this; simp at this; omega)
      injection ea with ea1 _ ea2
      subst ea1 ea2
      have hcx : wr.cell? ⟨ga, oa + q, none⟩ = some (.int .u32 (x : Int)) := (hB.cell (by have := hAa.lt; rw [HG.out] at this; exact this)).trans (hAa.cell (hLa _ _ hx))
      obtain ⟨k, hk⟩ : ∃ k, k = L - 1 - i := ⟨_, rfl⟩
      have hki : (L : Int) - 1 - (i : Int) = (k : Int) := by omega
      have hkL : k < L := by omega
      obtain ⟨y, hy⟩ : ∃ y, O[k]? = some y := ⟨_, List.getElem?_eq_getElem (by rw [hO.out]; exact hkL)⟩
      have hcy : wr.cell? ⟨g, k, none⟩ = some (.int .u8 (y : Int)) := hA.cell hy
      have hfy : wr.frozen? ⟨g, k, none⟩ = false := hA.frozen _
      obtain ⟨z, hz⟩ : ∃ z, z = x / 2 ^ sh := ⟨_, rfl⟩
      have hzi : (x : Int) / 2 ^ sh = (z : Int) := by rw [hz]; push_cast; rfl
      have hzs : z < 4294967296 := by rw [hz]; exact Nat.lt_of_le_of_lt (Nat.div_le_self _ _) hxs
      obtain ⟨b, hb⟩ : ∃ b, b = z % 256 := ⟨_, rfl⟩
      have hbi : (z : Int) % 256 = (b : Int) := by rw [hb]; rfl
      have hbs : b < 256 := by omega
      have hbv : b = N / 256 ^ i % 256 := by
        rw [hb, hz, hxv, hsh, byte_of _ _ _ (by omega), ← HN.out, hq, show 4 * (i / 4) + i % 4 = i by omega]
      have HV2 : Hid (∀ t, t < i + 1 → (O.set k b)[L - 1 - t]? = some (N / 256 ^ t % 256)) := Lib.hid (fun t ht => by
        by_cases hti : t = i
        · subst hti
          rw [← hk, List.getElem?_set_self (by rw [hO.out]; exact hkL), hbv]
        · rw [List.getElem?_set_ne (by omega)]
          exact hOv.out t (by omega))
      have HS2 : Hid (∀ x, x ∈ O.set k b → x < 256) := Lib.hid (fun x hx => by
        rcases List.mem_or_eq_of_mem_set hx with h1 | h1
        · exact hOs.out x h1
        · rw [h1]; exact hbs)
      clear hx hq hsh hy hz hb hk hxv hbv
      go_wp2
      go_roundw
      case rel => exact ⟨i + 1, O.set k b, by go_num, by omega, by rw [List.length_set]; exact hO.out, HS2.out, HV2.out, hA.set_ _ _, hB.setCell (Nat.le_refl _) _⟩
      case measure => simp [intOf]; omega
    · obtain rfl : i = L := by omega
      have HO : Hid (O = natL N) := Lib.hid (natL_of (by rw [hO.out, HL.out]) (fun t ht => by rw [← HL.out] at ht ⊢; exact hOv.out t ht))
      have hcv := conv_str wr g O i hA hOs.out 22 Try.underlying22
      rw [hO.out] at hcv
      have HS : Hid (natS N = ⟨(O.map UInt8.ofNat).toArray⟩) := Lib.hid (by rw [HO.out]; rfl)
      go_wp2
      go_ret2
      exact ⟨by rw [HS.out]; rfl, by rw [HG.out]; exact hB⟩

set_option maxHeartbeats 400000 in
/-- nat.Of -/
theorem natOf_any (n : Nat) (w : World) (hn : n < 18446744073709551616) :
    Calls Try.prog 90 #[.int .u64 (n : Int)] w fun e w' => e = .returned (.string (natS n)) ∧ Below w.heap.size w w' := by
  have hl8 : (nb n).length ≤ 8 := by
    rcases Nat.eq_zero_or_pos n with h | h
    · subst h; simp [nb_zero]
    · have h1 := (nb_bounds h).1
      rcases Nat.lt_or_ge 8 (nb n).length with h3 | h3
      · have : 256 ^ 8 ≤ 256 ^ ((nb n).length - 1) := Nat.pow_le_pow_right (by omega) (by omega)
        omega
      · exact h3
  have hl8 := Lib.hid hl8
  go_enter Try.func90, Try.ntmps90
  go_wp2_with fail
  have hA : Arr (w.alloc (.cells #[.int .u32 ((n : Int) % 4294967296), .int .u32 ((n : Int) / 4294967296)] 143)) w.heap.size .u32 143 [n % 4294967296, n / 4294967296] := Arr.new w .u32 143 [n % 4294967296, n / 4294967296]
  have hR := Lib.hid (Rd.whole hA (by simp [maxLen]))
  clear hA
  refine (shut_any _ _ _ hR.out (sm_two hn) (by simp) (by rw [two_digits]; exact Nat.le_trans hl8.out (by omega))).mono ?_
  rintro e w1 ⟨rfl, hb⟩
  rw [two_digits]
  have hb := Lib.hid hb
  go_wp2
  go_ret
  exact ⟨rfl, ((Below.refl _ _).alloc (Nat.le_refl _) _).trans (hb.out.mono (by simp))⟩
end Go.Proofs.Ytciafmnideihjaa
