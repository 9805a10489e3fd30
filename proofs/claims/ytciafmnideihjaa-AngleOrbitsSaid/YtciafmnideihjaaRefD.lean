/- The document's answer: filigreeref02.made, Of. · The document's answer: filigreeref02.Of; Angle.Ratio; filigreelaw21.is. · The document's answer: filigreeref21.low, Make, Add. · The document's answer: filigreeref21.Add. -/
import Derived.Test.YtciafmnideihjaaRefA
import Derived.Test.YtciafmnideihjaaAngH
import Derived.Lib.QuietBelow
import Derived.Deep.CutBlock
import Derived.Test.YtciafmnideihjaaAngN
namespace Go.Proofs.Ytciafmnideihjaa
open Go.RowKit

theorem be_zero_cons (l : List Nat) : be (0 :: l) = be l := by simp [be]
theorem take_succ_rev {l : List Nat} {k x : Nat} (h : l[k]? = some x) : (l.take (k + 1)).reverse = x :: (l.take k).reverse := by
  have hlt := lt_of_getElem? h
  have e : l[k] = x := by rw [List.getElem?_eq_getElem hlt] at h; exact Option.some.inj h
  rw [List.take_succ_eq_append_getElem hlt, e]
  simp
theorem rev_row {l O : List Nat} {n : Nat} (hn : n ≤ l.length) (hO : O.length = n) (h : ∀ t, t < n → O[n - 1 - t]? = l[t]?) : O = (l.take n).reverse := by
  apply List.ext_getElem?
  intro j
  by_cases hj : j < n
  · have h1 := h (n - 1 - j) (by omega)
    rw [show n - 1 - (n - 1 - j) = j by omega] at h1
    have hlen : (l.take n).length = n := by rw [List.length_take]; omega
    rw [h1, List.getElem?_reverse (by rw [hlen]; exact hj), hlen, List.getElem?_take, if_pos (by omega)]
  · rw [List.getElem?_eq_none (by omega), List.getElem?_eq_none (by rw [List.length_reverse, List.length_take]; omega)]

/-- A number's digits, the lowest first, as a string. -/
def madeS (l : List Nat) : ByteArray := natS (be l.reverse)

set_option maxRecDepth 100000 in
set_option maxHeartbeats 1000000 in
/-- filigreeref02.made -/
theorem made_any (v : Value) (l : List Nat) (w : World) (h : Rd .i64 3 w v l) (hs : ∀ x, x ∈ l → x < 256) (hlen : l.length ≤ 1073741824) :
    Calls Try.prog 93 #[v] w (RetVal (.string (madeS l)) w) := by
  obtain ⟨A, c, rfl, h1, h2, h3⟩ := id h
  have h := Lib.hid h
  have h3 := Lib.hid h3
  replace hs := Lib.hid hs
  obtain ⟨K, hK⟩ : ∃ K, K = l.length := ⟨_, rfl⟩
  rw [← hK] at h1 hlen ⊢
  have HK := Lib.hid hK
  clear hK
  go_enter Try.func93, Try.ntmps93
  go_wp2
  go_loop [3] (fun n => ∃ m : Nat, n = .int .i64 (m : Int) ∧ m ≤ K ∧ be (l.take m).reverse = be l.reverse) (fun n => (intOf n).toNat)
  case atStart => exact ⟨K, rfl, Nat.le_refl _, by rw [HK.out, List.take_length]⟩
  case round =>
    obtain ⟨m, rfl, hm, hbe⟩ := hrel
    have hfin : ∀ x, (m = 0 ∨ (l[m - 1]? = some x ∧ x ≠ 0)) → madeS l = ⟨((l.take m).reverse.map UInt8.ofNat).toArray⟩ := by
      intro x hx
      unfold madeS natS
      rw [← hbe, natL_be]
      · intro y hy
        exact hs.out y (List.mem_of_mem_take (List.mem_reverse.1 hy))
      · rcases hx with rfl | ⟨hx, hx0⟩
        · simp
        · rcases Nat.eq_zero_or_pos m with h0 | h0
          · rw [h0]; simp
          · have e := take_succ_rev hx
            rw [show m - 1 + 1 = m by omega] at e
            rw [e]
            simpa using hx0
    replace hbe := Lib.hid hbe
    replace hfin := Lib.hid hfin
    have hrest : True := trivial
    by_cases h0 : 0 < m
    · have h0I : (0 : Int) < (m : Int) := by omega
      obtain ⟨x, hx⟩ : ∃ x, l[m - 1]? = some x := ⟨_, List.getElem?_eq_getElem (by rw [← HK.out]; omega)⟩
      obtain ⟨ga, oa, ca, La, ea, -, -, hAa, hLa⟩ := h.out.open_ (fun e => by have := HK.out; rw [e] at this; simp at this; omega)
      injection ea with ea1 _ ea2
      subst ea1 ea2
      obtain ⟨q, hq⟩ : ∃ q, q = m - 1 := ⟨_, rfl⟩
      have hqi : (m : Int) - 1 = (q : Int) := by omega
      have hmq : m = q + 1 := by omega
      rw [← hq] at hx
      have hcx : w.cell? ⟨ga, oa + q, none⟩ = some (.int .i64 (x : Int)) := hAa.cell (hLa _ _ hx)
      by_cases hx0 : x = 0
      · subst hx0
        have hbe2 : Hid (be (l.take q).reverse = be l.reverse) := Lib.hid (by
          have e := take_succ_rev hx
          rw [← hbe.out, hmq, e, be_zero_cons])
        clear hx hq hfin
        go_wp2
        go_round
        case rel => exact ⟨q, by go_num, by omega, hbe2.out⟩
        case measure => simp [intOf]; omega
      · have hx0I : ((x : Int) == 0) = false := by simp; omega
        have hf := Lib.hid (hfin.out x (Or.inr ⟨by rw [← hq]; exact hx, hx0⟩))
        have hmk := make_u8 m (by omega)
        have hqK : q < K := by omega
        clear hfin hx hq hx0 hmq
        go_wp2
        clear hqi hqK
        have hA0 := Arr.new w .u8 5 (List.replicate m 0)
        have hB0 : Below w.heap.size w (w.alloc (.cells (ivs .u8 (List.replicate m 0)).toArray 5)) := (Below.refl _ _).alloc (Nat.le_refl _) _
        generalize hw0 : w.alloc (.cells (ivs .u8 (List.replicate m 0)).toArray 5) = w0 at hA0 hB0 ⊢
        generalize hg : w.heap.size = g at *
        have HG := Lib.hid hg
        clear hw0 hg hmk hcx hx0I
        go_loopw [5] (fun i wr => ∃ (k : Nat) (O : List Nat), i = .int .i64 (k : Int) ∧ k ≤ m ∧ O.length = m ∧ (∀ x, x ∈ O → x < 256) ∧ (∀ t, t < k → O[m - 1 - t]? = l[t]?) ∧ Arr wr g .u8 5 O ∧ Below g w wr) (fun i _ => m - (intOf i).toNat)
        case atStart => exact ⟨0, _, rfl, Nat.zero_le _, by simp, fun x hx => by rw [List.eq_of_mem_replicate hx]; omega, fun t ht => absurd ht (by omega), hA0, hB0⟩
        case round =>
          obtain ⟨i, O, rfl, hi, hO, hOs, hOv, hA, hB⟩ := hrel
          replace hO := Lib.hid hO
          replace hOs := Lib.hid hOs
          replace hOv := Lib.hid hOv
          by_cases hi0 : i < m
          · obtain ⟨y, hy⟩ : ∃ y, l[i]? = some y := ⟨_, List.getElem?_eq_getElem (by rw [← HK.out]; omega)⟩
            have hys : y < 256 := hs.out y (List.mem_of_getElem? hy)
            have hcy : wr.cell? ⟨ga, oa + i, none⟩ = some (.int .i64 (y : Int)) := (hB.cell (by have := hAa.lt; rw [HG.out] at this; exact this)).trans (hAa.cell (hLa _ _ hy))
            obtain ⟨k, hk⟩ : ∃ k, k = m - 1 - i := ⟨_, rfl⟩
            have hki : (m : Int) - 1 - (i : Int) = (k : Int) := by omega
            have hkL : k < m := by omega
            obtain ⟨z, hz⟩ : ∃ z, O[k]? = some z := ⟨_, List.getElem?_eq_getElem (by rw [hO.out]; exact hkL)⟩
            have hcz : wr.cell? ⟨g, k, none⟩ = some (.int .u8 (z : Int)) := hA.cell hz
            have hfz : wr.frozen? ⟨g, k, none⟩ = false := hA.frozen _
            have HV2 : Hid (∀ t, t < i + 1 → (O.set k y)[m - 1 - t]? = l[t]?) := Lib.hid (fun t ht => by
              by_cases hti : t = i
              · subst hti
                rw [← hk, List.getElem?_set_self (by rw [hO.out]; exact hkL), hy]
              · rw [List.getElem?_set_ne (by omega)]
                exact hOv.out t (by omega))
            have HS2 : Hid (∀ x, x ∈ O.set k y → x < 256) := Lib.hid (fun x hx => by
              rcases List.mem_or_eq_of_mem_set hx with h1 | h1
              · exact hOs.out x h1
              · rw [h1]; exact hys)
            have hym : (y : Int) % 256 = (y : Int) := by omega
            clear hy hz hk
            go_wp2
            go_roundw
            case rel => exact ⟨i + 1, O.set k y, by go_num, by omega, by rw [List.length_set]; exact hO.out, HS2.out, HV2.out, hA.set_ _ _, hB.setCell (Nat.le_refl _) _⟩
            case measure => simp [intOf]; omega
          · obtain rfl : i = m := by omega
            have HO : Hid (O = (l.take i).reverse) := Lib.hid (rev_row (by rw [← HK.out]; omega) hO.out hOv.out)
            have hcv := conv_str wr g O i hA hOs.out 9 Try.underlying9
            rw [hO.out] at hcv
            go_wp2
            go_ret
            exact ⟨by rw [hf.out, ← HO.out]; rfl, by rw [HG.out]; exact hB⟩
    · obtain rfl : m = 0 := by omega
      have hf := Lib.hid (hfin.out 0 (Or.inl rfl))
      have hmk : ∀ w : World, (Instr.makeSlice 81 (.int .i64 0) (.int .i64 0)).run Try.prog w = .ok (.slice (some ⟨w.heap.size, 0, none⟩) 0 0) (w.alloc (.cells #[] 5)) := fun w => make_u8 0 (by omega) w
      clear hfin hbe
      go_wp2
      have hA0 := Arr.new w .u8 5 []
      have hcv : (convert 81 9 (.slice (some ⟨w.heap.size, 0, none⟩) 0 0)).run Try.prog (w.alloc (.cells #[] 5)) = .ok (.string ⟨#[]⟩) (w.alloc (.cells #[] 5)) := conv_str (w.alloc (.cells #[] 5)) w.heap.size [] 0 hA0 (fun x hx => by cases hx) 9 Try.underlying9
      go_loop [5] (fun i => i = .int .i64 0) (fun _ => 0)
      case atStart => rfl
      case round =>
        subst hrel
        go_wp2
        go_ret
        exact ⟨by rw [hf.out]; rfl, (Below.refl _ _).alloc (Nat.le_refl _) _⟩
end Go.Proofs.Ytciafmnideihjaa

namespace Go.Proofs.Ytciafmnideihjaa
open Go.RowKit Go.Sort

theorem info_int : (Try.prog.info? 3).map (fun i => (i.zero, i.size, i.bytes)) = some (some (.int .i64 0), 1, 8) := by kernel_rfl

/-- A row of the call's own reads as its numbers. -/
theorem rd_own {w : World} {base : Nat} {T : TypeId} {k : IntKind} {v : Value} {l : List Nat} (h : w.ownsRow base T 1 v l.length (ivs k l)) : Rd k T w v l := by
  obtain ⟨hl, hc⟩ := h
  rcases hc with ⟨rfl, h0⟩ | ⟨g, cap, cur, rfl, -, hg, hn, hm, -, ht⟩
  · have : l = [] := List.eq_nil_of_length_eq_zero h0
    subst this
    exact Rd.nil_
  · refine ⟨_, cap, rfl, hn, hm, fun _ => ⟨g, 0, fun j => l[j]?, rfl, ⟨cur, (0, 0), hg, fun j x hj => ?_⟩, fun j x hj => by simpa using hj⟩⟩
    replace hj : l[j]? = some x := hj
    have hlt := lt_of_getElem? hj
    have e := ivs_get (k := k) hj
    rw [← ht, Nat.mul_one, List.getElem?_take, if_pos hlt] at e
    simpa using e

theorem be_rev_snoc (L : List Nat) (d : Nat) : be (L ++ [d]).reverse = be L.reverse + 256 ^ L.length * d := by
  rw [List.reverse_append, be_append, List.length_reverse]
  simp [be]
  rw [Nat.mul_comm, Nat.add_comm]

set_option maxRecDepth 100000 in
set_option maxHeartbeats 1000000 in
/-- filigreeref02.Of -/
theorem rnum_any (n0 : Nat) (w : World) (hn0 : n0 < 18446744073709551616) :
    Calls Try.prog 58 #[.int .u64 (n0 : Int)] w (RetVal (.string (natS n0)) w) := by
  obtain ⟨i0, hi, hz0, hz1, hz2⟩ := info_parts info_int
  go_enter Try.func58, Try.ntmps58
  go_wp2
  go_loopw [0, 3] (fun n v wr => ∃ (x : Nat) (L : List Nat), n = .int .u64 (x : Int) ∧ x < 256 ^ (8 - L.length) ∧ L.length ≤ 8 ∧ (∀ y, y ∈ L → y < 256) ∧ be L.reverse + 256 ^ L.length * x = n0 ∧ wr.ownsRow w.heap.size 3 1 v L.length (ivs .i64 L) ∧ Below w.heap.size w wr) (fun n _ _ => (intOf n).toNat)
  case atStart => exact ⟨n0, [], rfl, hn0, Nat.zero_le _, fun y hy => (by cases hy), by simp [be], World.ownsRow_nil _ _ _ _, Below.refl _ _⟩
  case round =>
    obtain ⟨x, L, rfl, hx, hL8, hLs, hbe, hown, hB⟩ := hrel
    have hxs : x < 18446744073709551616 := Nat.lt_of_lt_of_le hx (by
      refine Nat.le_trans (Nat.pow_le_pow_right (by omega) (show 8 - L.length ≤ 8 by omega)) (by decide))
    replace hLs := Lib.hid hLs
    replace hown := Lib.hid hown
    replace hB := Lib.hid hB
    by_cases h0 : 0 < x
    · have h0I : (0 : Int) < (x : Int) := by omega
      have hL7 : L.length < 8 := by
        rcases Nat.lt_or_ge L.length 8 with h | h
        · exact h
        · rw [show 8 - L.length = 0 by omega] at hx; omega
      obtain ⟨q, hq⟩ : ∃ q, q = x / 256 := ⟨_, rfl⟩
      obtain ⟨r, hr⟩ : ∃ r, r = x % 256 := ⟨_, rfl⟩
      have hqi : (x : Int) / 256 = (q : Int) := by omega
      have hri : (x : Int) % 256 = (r : Int) := by omega
      have hr256 : r < 256 := by omega
      have hqx : q < x := by omega
      have hq8 : Hid (q < 256 ^ (8 - (L ++ [r]).length)) := Lib.hid (by
        rw [List.length_append, hq]
        refine Nat.div_lt_of_lt_mul ?_
        rw [show 8 - L.length = (8 - (L.length + [r].length)) + 1 by simp; omega, Nat.pow_succ] at hx
        omega)
      have hbe2 : Hid (be (L ++ [r]).reverse + 256 ^ (L ++ [r]).length * q = n0) := Lib.hid (by
        rw [be_rev_snoc, List.length_append, ← hbe, Nat.add_assoc]
        congr 1
        rw [show L.length + [r].length = L.length + 1 by simp, Nat.pow_succ, Nat.mul_assoc, ← Nat.mul_add]
        congr 1
        omega)
      have hLs2 : Hid (∀ y, y ∈ L ++ [r] → y < 256) := Lib.hid (fun y hy => by
        rcases List.mem_append.1 hy with h | h
        · exact hLs.out y h
        · rw [List.mem_singleton.1 h]; exact hr256)
      obtain ⟨wo, rfl⟩ : ∃ wo : World, wo = wr := ⟨_, rfl⟩
      clear hq hr hx hbe
      go_wp2_with (at_builtin; refine wpList_append_own _ rfl _ _ 138 rfl w.heap.size 3 i0 (.int .i64 0) 1 8 Try.underlying138 hi hz0 hz1 hz2 rfl (by decide) _ _ _ rfl (hown.out.alloc _) ⟨wo.heap.size, 0, none⟩ 1 1 [.int .i64 (r : Int)] rfl rfl ?d1 ?d2 ?d3 ?d4 ?d5 ?_)
      case d1 =>
        intro j u hj
        match j, hj with
        | 0, hj => simp at hj; subst hj; simp [Addr.add]
      case d2 => intro u hu; simp at hu; rw [hu]; rfl
      case d3 => unfold maxLen; omega
      case d4 => omega
      case d5 => have := hB.out.size; simp; omega
      intro v' w1 hown' hgrow _
      have hB1 : Below w.heap.size w w1 := (hB.out.alloc hB.out.size _).grown hgrow (by have := hB.out.size; simp; omega) (fun k hk => (hown.out.lt k hk).1)
      have hown2 : w1.ownsRow w.heap.size 3 1 v' (L ++ [r]).length (ivs .i64 (L ++ [r])) := by rw [ivs_append, List.length_append]; exact hown'
      replace hB1 := Lib.hid hB1
      replace hown2 := Lib.hid hown2
      clear hown' hgrow
      go_wp2
      go_roundw
      case rel => exact ⟨q, L ++ [r], by go_num, hq8.out, by rw [List.length_append]; simp; omega, hLs2.out, hbe2.out, hown2.out, hB1.out⟩
      case measure => simp [intOf]; omega
    · obtain rfl : x = 0 := by omega
      have hfin : Hid (madeS L = natS n0) := Lib.hid (by
        unfold madeS
        rw [Nat.mul_zero, Nat.add_zero] at hbe
        rw [hbe])
      clear hbe hx
      go_wp2_with fail
      refine (made_any _ L _ (rd_own hown.out) hLs.out (by omega)).mono ?_
      rintro e w1 ⟨rfl, hb⟩
      rw [hfin.out]
      have hB1 := Lib.hid (hB.out.trans (hb.mono hB.out.size))
      clear hb
      go_wp2
      go_ret
      exact ⟨rfl, hB1.out⟩

set_option maxRecDepth 100000 in
set_option maxHeartbeats 400000 in
/-- filigreeref21.Angle.Ratio -/
theorem rratio_any (n d : Nat) (w : World) (hn : n < 18446744073709551616) (hd : d < 18446744073709551616) :
    Calls Try.prog 24 #[.agg #[.int .u64 (n : Int), .int .u64 (d : Int)]] w (RetVal (ratV n d) w) := by
  go_enter Try.func24, Try.ntmps24
  go_wp2_with fail
  have hK1 := (Blk.new w 34 #[.int .u64 (n : Int), .int .u64 (d : Int)]).alloc (.cells #[.bool false, .string ⟨#[]⟩, .string ⟨#[]⟩] 24)
  have hK2 := Blk.new (w.alloc (.cells #[.int .u64 (n : Int), .int .u64 (d : Int)] 34)) 24 #[.bool false, .string ⟨#[]⟩, .string ⟨#[]⟩]
  have hBW : Below w.heap.size w ((w.alloc (.cells #[.int .u64 (n : Int), .int .u64 (d : Int)] 34)).alloc (.cells #[.bool false, .string ⟨#[]⟩, .string ⟨#[]⟩] 24)) := ((Below.refl _ w).alloc (Nat.le_refl _) _).alloc (by simp) _
  have hsz : (w.alloc (.cells #[.int .u64 (n : Int), .int .u64 (d : Int)] 34)).heap.size = w.heap.size + 1 := by simp
  rw [hsz] at hK2
  replace hK1 := Lib.hid hK1
  replace hK2 := Lib.hid hK2
  replace hBW := Lib.hid hBW
  clear hsz
  go_region_held3 (fun w' => w'.cell? ⟨w.heap.size, 0, none⟩ = some (.int .u64 (n : Int)) ∧ w'.cell? ⟨w.heap.size, 1, none⟩ = some (.int .u64 (d : Int))) (go_keep)
    (first
      | (go_at_call_of 58 (Value.int .u64 (n : Int)); refine (rnum_any n _ hn).mono ?_; rintro e w3 ⟨rfl, hB⟩; have q1 := Blk.below (Blk.drew hK1.out) hB; have q2 := Blk.below (Blk.drew hK2.out) hB; have hBw : Below w.heap.size w w3 := hBW.out.drew.trans (hB.mono (by simp; omega)); have k1 : w3.cell? ⟨w.heap.size, 0, none⟩ = some (.int .u64 (n : Int)) := q1.cell 0; have k2 : w3.cell? ⟨w.heap.size, 1, none⟩ = some (.int .u64 (d : Int)) := q1.cell 1; replace hBw := Lib.hid hBw; replace q1 := Lib.hid q1; replace q2 := Lib.hid q2; clear hB)
      | (go_at_call_of 58 (Value.int .u64 (d : Int)); refine (rnum_any d _ hd).mono ?_; rintro e w4 ⟨rfl, hB⟩; have r1 := Blk.below q1.out hB; have r2 := Blk.below q2.out hB; have hBx : Below w.heap.size w w4 := hBw.out.trans (hB.mono hBw.out.size); have j1 : w4.cell? ⟨w.heap.size, 0, none⟩ = some (.int .u64 (n : Int)) := r1.cell 0; have j2 : w4.cell? ⟨w.heap.size, 1, none⟩ = some (.int .u64 (d : Int)) := r1.cell 1; have i0 : w4.cell? ⟨w.heap.size + 1, 0, none⟩ = some (.bool false) := r2.cell 0; have i1 : w4.cell? ⟨w.heap.size + 1, 1, none⟩ = some (.string ⟨#[]⟩) := r2.cell 1; have i2 : w4.cell? ⟨w.heap.size + 1, 2, none⟩ = some (.string ⟨#[]⟩) := r2.cell 2; have f0 := r2.frozen 0; have f1 := r2.frozen 1; have f2 := r2.frozen 2; replace hBx := Lib.hid hBx; clear r1 r2 hB))
  all_goals
    go_wp2
    refine bodyPost_ret (v := .agg #[.bool false, .string (natS n), .string (natS d)]) (by simp [results, Try.results24, go_sem, i0, i1, i2]) rfl ⟨rfl, ?_⟩
    exact ((hBx.out.setCell (p := ⟨w.heap.size + 1, 0, none⟩) (by simp) _).setCell (p := ⟨w.heap.size + 1, 1, none⟩) (by simp) _).setCell (p := ⟨w.heap.size + 1, 2, none⟩) (by simp) _

theorem ba_nil : (⟨#[]⟩ : ByteArray).toList = [] := by rw [ByteArray.toList_eq]

set_option maxRecDepth 100000 in
set_option maxHeartbeats 400000 in
/-- filigreelaw21.is, of an error: both tell the same. -/
theorem is_no (n d : Nat) (f : Int) (w : World) (h0 : f ≠ 0) :
    Calls Try.prog 27 #[.agg #[.bool false, .string ⟨#[]⟩, .string ⟨#[]⟩], .int .i64 f, .agg #[.int .u64 (n : Int), .int .u64 (d : Int)], .int .i64 f] w (RetVal (.bool true) w) := by
  have hb : (f != 0) = true := by simpa using h0
  go_enter Try.func27, Try.ntmps27
  go_wp2_with fail
  go_ret
  exact ⟨by simp, ((Below.refl _ w).alloc (Nat.le_refl _) _).alloc (by simp) _⟩

set_option maxRecDepth 100000 in
set_option maxHeartbeats 400000 in
/-- filigreelaw21.is, of an angle: both tell the same. -/
theorem is_yes (n d : Nat) (w : World) (hn : n < 18446744073709551616) (hd : d < 18446744073709551616) :
    Calls Try.prog 27 #[.agg #[.bool false, .string (natS n), .string (natS d)], .int .i64 0, .agg #[.int .u64 (n : Int), .int .u64 (d : Int)], .int .i64 0] w (RetVal (.bool true) w) := by
  have hK1 := (Blk.new w 24 #[.bool false, .string (natS n), .string (natS d)]).alloc (.cells #[.int .u64 (n : Int), .int .u64 (d : Int)] 34)
  have hK2 := Blk.new (w.alloc (.cells #[.bool false, .string (natS n), .string (natS d)] 24)) 34 #[.int .u64 (n : Int), .int .u64 (d : Int)]
  have hBW : Below w.heap.size w ((w.alloc (.cells #[.bool false, .string (natS n), .string (natS d)] 24)).alloc (.cells #[.int .u64 (n : Int), .int .u64 (d : Int)] 34)) := ((Below.refl _ w).alloc (Nat.le_refl _) _).alloc (by simp) _
  rw [show (w.alloc (.cells #[.bool false, .string (natS n), .string (natS d)] 24)).heap.size = w.heap.size + 1 by simp] at hK2
  obtain ⟨u3, hu3⟩ : ∃ u3, u3 = ((w.alloc (.cells #[.bool false, .string (natS n), .string (natS d)] 24)).alloc (.cells #[.int .u64 (n : Int), .int .u64 (d : Int)] 34)) := ⟨_, rfl⟩
  have hU := Lib.hid hu3
  rw [← hu3] at hK1 hK2 hBW
  have r0 : ∀ d' os, (grow (redrawn u3 d') os).cell? ⟨w.heap.size, 0, none⟩ = some (.bool false) := cell_regrown (Blk.cell hK1 0)
  have r1 : ∀ d' os, (grow (redrawn u3 d') os).cell? ⟨w.heap.size, 1, none⟩ = some (.string (natS n)) := cell_regrown (Blk.cell hK1 1)
  have r2 : ∀ d' os, (grow (redrawn u3 d') os).cell? ⟨w.heap.size, 2, none⟩ = some (.string (natS d)) := cell_regrown (Blk.cell hK1 2)
  have s0 : ∀ d' os, (grow (redrawn u3 d') os).cell? ⟨w.heap.size + 1, 0, none⟩ = some (.int .u64 (n : Int)) := cell_regrown (Blk.cell hK2 0)
  have s1 : ∀ d' os, (grow (redrawn u3 d') os).cell? ⟨w.heap.size + 1, 1, none⟩ = some (.int .u64 (d : Int)) := cell_regrown (Blk.cell hK2 1)
  have cc : ∀ d' os, Calls Try.prog 24 #[.agg #[.int .u64 (n : Int), .int .u64 (d : Int)]] (grow (redrawn u3 d') os) fun e w'' => e = .returned (.agg #[.bool false, .string (natS n), .string (natS d)]) ∧ ∃ p : Regrown, w'' = grow (redrawn u3 p.d) p.os :=
    fun d' os => Calls.regrown_of (rratio_any n d _ hn hd)
  replace hBW := Lib.hid hBW
  clear hu3 hK1 hK2
  go_enter Try.func27, Try.ntmps27
  go_wp2_with fail
  rw [← hU.out]
  refine wp_region_quiet_below (by kernel_rfl) (by kernel_rfl) ?_
  iterate 2 (quiet_step (fail))
  quiet_step (exact cc _ _)
  iterate 6 (quiet_step (fail))
  refine wpQuiet_nil ?_
  intro u4 hw'
  have hb : Below u3.heap.size u3 u4 := by
    obtain ⟨p, rfl⟩ := hw'
    exact below_regrown u3 p.d p.os
  have hB4 := Lib.hid (hBW.out.trans (hb.mono hBW.out.size))
  clear hw' cc r0 r1 r2 s0 s1 hb
  go_wp2_with fail
  go_ret
  exact ⟨by simp, hB4.out⟩
end Go.Proofs.Ytciafmnideihjaa

namespace Go.Proofs.Ytciafmnideihjaa
open Go.RowKit

set_option maxRecDepth 100000 in
set_option maxHeartbeats 400000 in
/-- filigreeref21.low -/
theorem low_any (a b X n d : Nat) (w : World) (ha : a < 18446744073709551616) (hb : b < 18446744073709551616) (h0 : 0 < b) (hX : Hid (X = a % b)) (hn : Hid (n = X / Nat.gcd X b)) (hd : Hid (d = b / Nat.gcd X b)) :
    Calls Try.prog 62 #[.int .u64 a, .int .u64 b] w (RetPart n d w) := by
  have hXb : X < b := by rw [hX.out]; exact Nat.mod_lt _ h0
  have hXi : (a : Int) % (b : Int) = (X : Int) := by rw [hX.out]; rfl
  obtain ⟨g, hg⟩ : ∃ g, g = Nat.gcd X b := ⟨_, rfl⟩
  have hg0 : 0 < g := by rw [hg]; exact Nat.gcd_pos_of_pos_right _ h0
  have hgs : g < 18446744073709551616 := by rw [hg]; exact Nat.lt_of_le_of_lt (Nat.gcd_le_right _ h0) hb
  have e1 : (X : Int) / (g : Int) = (n : Int) := by rw [hn.out, hg]; rfl
  have e2 : (b : Int) / (g : Int) = (d : Int) := by rw [hd.out, hg]; rfl
  have hns : n < 18446744073709551616 := by rw [hn.out]; exact Nat.lt_of_le_of_lt (Nat.div_le_self _ _) (by omega)
  have hds : d < 18446744073709551616 := by rw [hd.out]; exact Nat.lt_of_le_of_lt (Nat.div_le_self _ _) hb
  have hb0 : ¬ (b : Int) = 0 := by omega
  have Hg := Lib.hid hg
  clear hg
  go_enter Try.func62, Try.ntmps62
  go_wp2_with fail
  refine (rgcd_any X b _ (by omega) hb).mono ?_
  rintro e w1 ⟨rfl, hdr⟩
  rw [← Hg.out]
  have hK := Blk.dr hdr (Blk.new w 34 #[.int .u64 0, .int .u64 0])
  have hB := below_dr hdr ((Below.refl w.heap.size w).alloc (Nat.le_refl _) (.cells #[.int .u64 0, .int .u64 0] 34))
  have k0 := hK.cell 0
  have k1 := hK.cell 1
  have f0 := hK.frozen 0
  have f1 := hK.frozen 1
  simp at k0 k1
  have hB := Lib.hid hB
  have hK := Lib.hid hK
  clear hdr
  go_wp2
  go_region
  go_wp2
  refine bodyPost_ret (v := .agg #[.int .u64 (n : Int), .int .u64 (d : Int)]) (by simp [results, Try.results62, go_sem, k0, k1]) rfl ⟨rfl, ?_⟩
  exact ((hB.out.setCell (p := ⟨w.heap.size, 0, none⟩) (Nat.le_refl _) _).setCell (p := ⟨w.heap.size, 1, none⟩) (Nat.le_refl _) _).drew

/-- What the document's Make tells. -/
def rmakeV (num den : Int) : Value :=
  if 1 ≤ den ∧ den ≤ 2147483647 then
    .tuple #[.agg #[.int .u64 (((num % den).toNat / Nat.gcd (num % den).toNat den.toNat : Nat) : Int), .int .u64 ((den.toNat / Nat.gcd (num % den).toNat den.toNat : Nat) : Int)], .int .i64 0]
  else .tuple #[.agg #[.int .u64 0, .int .u64 0], .int .i64 2]

set_option maxRecDepth 100000 in
set_option maxHeartbeats 1000000 in
/-- filigreeref21.Make -/
theorem rmake_any (num den : Int) (w : World) :
    Calls Try.prog 35 #[.int .i64 num, .int .i64 den] w (RetVal (rmakeV num den) w) := by
  by_cases h1 : den < 1
  · have hv : Hid (rmakeV num den = .tuple #[.agg #[.int .u64 0, .int .u64 0], .int .i64 2]) := Lib.hid (by
      have : ¬ (1 ≤ den ∧ den ≤ 2147483647) := by omega
      simp [rmakeV, this])
    go_enter Try.func35, Try.ntmps35
    go_wp2
    refine bodyPost_ret (v := .tuple #[.agg #[.int .u64 0, .int .u64 0], .int .i64 2]) (by simp [results, Try.results35, go_sem]) rfl ⟨by rw [hv.out], ?_⟩
    repeat (first | exact Below.refl _ _ | apply Below.drew | refine Below.setCell ?_ (by simp) _ | refine Below.alloc ?_ (by simp) _)
  by_cases h2 : 2147483647 < den
  · have hv : Hid (rmakeV num den = .tuple #[.agg #[.int .u64 0, .int .u64 0], .int .i64 2]) := Lib.hid (by
      have : ¬ (1 ≤ den ∧ den ≤ 2147483647) := by omega
      simp [rmakeV, this])
    go_enter Try.func35, Try.ntmps35
    go_wp2
    refine bodyPost_ret (v := .tuple #[.agg #[.int .u64 0, .int .u64 0], .int .i64 2]) (by simp [results, Try.results35, go_sem]) rfl ⟨by rw [hv.out], ?_⟩
    repeat (first | exact Below.refl _ _ | apply Below.drew | refine Below.setCell ?_ (by simp) _ | refine Below.alloc ?_ (by simp) _)
  obtain ⟨b, rfl⟩ := Int.eq_ofNat_of_zero_le (show 0 ≤ den by omega)
  have hb1 : 0 < b := by omega
  have hbs : b ≤ 2147483647 := by omega
  have hX0 := Int.emod_nonneg num (by omega : (b : Int) ≠ 0)
  have hXb := Int.emod_lt_of_pos num (show (0 : Int) < (b : Int) by omega)
  obtain ⟨X, hX⟩ := Int.eq_ofNat_of_zero_le hX0
  have hXs : X < b := by omega
  obtain ⟨N, hN⟩ : ∃ N, N = X / Nat.gcd X b := ⟨_, rfl⟩
  obtain ⟨D, hD⟩ : ∃ D, D = b / Nat.gcd X b := ⟨_, rfl⟩
  have hv : Hid (rmakeV num (b : Int) = .tuple #[.agg #[.int .u64 (N : Int), .int .u64 (D : Int)], .int .i64 0]) := Lib.hid (by
    have : (1 : Int) ≤ (b : Int) ∧ (b : Int) ≤ 2147483647 := by omega
    simp only [rmakeV, this, and_self, if_true, hX, Int.toNat_natCast]
    rw [hN, hD])
  have hc := tmod_cases num (b : Int) (by omega)
  rw [hX] at hc
  obtain ⟨R, hR⟩ : ∃ R, R = num.tmod (b : Int) := ⟨_, rfl⟩
  rw [← hR] at hc
  have hRi : num.tmod (b : Int) = R := hR.symm
  have hXX : Hid (X = X % b) := Lib.hid (Nat.mod_eq_of_lt hXs).symm
  replace hN := Lib.hid hN
  replace hD := Lib.hid hD
  have hbI : (1 : Int) ≤ (b : Int) := by omega
  have hbI2 : (b : Int) ≤ 2147483647 := by omega
  have hK2 := Blk.new w 34 #[.int .u64 0, .int .u64 0]
  have hBW : Below w.heap.size w (w.alloc (.cells #[.int .u64 0, .int .u64 0] 34)) := (Below.refl _ w).alloc (Nat.le_refl _) _
  replace hK2 := Lib.hid hK2
  replace hBW := Lib.hid hBW
  clear hX hX0 hXb hR
  rcases hc with ⟨hneg, hsum⟩ | ⟨hpos, hsum⟩
  · go_enter Try.func35, Try.ntmps35
    go_wp2_with fail
    refine (low_any X b X N D _ (by omega) (by omega) hb1 hXX hN hD).mono ?_
    rintro e w1 ⟨rfl, hb⟩
    have r2 := Blk.below hK2.out hb
    have hB1 := Lib.hid (hBW.out.trans (hb.mono (by simp)))
    have k0 : w1.cell? ⟨w.heap.size, 0, none⟩ = some (.int .u64 0) := r2.cell 0
    have k1 : w1.cell? ⟨w.heap.size, 1, none⟩ = some (.int .u64 0) := r2.cell 1
    have f0 := r2.frozen 0
    have f1 := r2.frozen 1
    clear hb hK2 hBW r2
    go_wp2
    refine bodyPost_ret (v := .tuple #[.agg #[.int .u64 (N : Int), .int .u64 (D : Int)], .int .i64 0]) (by simp [results, Try.results35, go_sem, k0, k1]) rfl ⟨by rw [hv.out], ?_⟩
    exact ((hB1.out.setCell (p := ⟨w.heap.size, 0, none⟩) (by simp) _).setCell (p := ⟨w.heap.size, 1, none⟩) (by simp) _)
  · subst hsum
    go_enter Try.func35, Try.ntmps35
    go_wp2_with fail
    refine (low_any X b X N D _ (by omega) (by omega) hb1 hXX hN hD).mono ?_
    rintro e w1 ⟨rfl, hb⟩
    have r2 := Blk.below hK2.out hb
    have hB1 := Lib.hid (hBW.out.trans (hb.mono (by simp)))
    have k0 : w1.cell? ⟨w.heap.size, 0, none⟩ = some (.int .u64 0) := r2.cell 0
    have k1 : w1.cell? ⟨w.heap.size, 1, none⟩ = some (.int .u64 0) := r2.cell 1
    have f0 := r2.frozen 0
    have f1 := r2.frozen 1
    clear hb hK2 hBW r2
    go_wp2
    refine bodyPost_ret (v := .tuple #[.agg #[.int .u64 (N : Int), .int .u64 (D : Int)], .int .i64 0]) (by simp [results, Try.results35, go_sem, k0, k1]) rfl ⟨by rw [hv.out], ?_⟩
    exact ((hB1.out.setCell (p := ⟨w.heap.size, 0, none⟩) (by simp) _).setCell (p := ⟨w.heap.size, 1, none⟩) (by simp) _)
end Go.Proofs.Ytciafmnideihjaa

namespace Go.Proofs.Ytciafmnideihjaa
open Go.RowKit

theorem add_same {x1 y1 x2 y2 G : Nat} (hG : G = Nat.gcd y1 y2) :
    y1 * y2 = G * (y1 / G * y2) ∧ addX x1 y1 x2 y2 = G * ((x1 * (y2 / G) + x2 * (y1 / G)) % (y1 / G * y2)) := by
  have d1 : G * (y1 / G) = y1 := Nat.mul_div_cancel' (by rw [hG]; exact Nat.gcd_dvd_left _ _)
  have d2 : G * (y2 / G) = y2 := Nat.mul_div_cancel' (by rw [hG]; exact Nat.gcd_dvd_right _ _)
  have e1 : y1 * y2 = G * (y1 / G * y2) := by rw [← Nat.mul_assoc, d1]
  refine ⟨e1, ?_⟩
  unfold addX
  rw [← Nat.mul_mod_mul_left, ← e1]
  congr 1
  rw [Nat.mul_add]
  congr 1
  · rw [Nat.mul_left_comm, d2]
  · rw [Nat.mul_left_comm, d1]

theorem add_low {x1 y1 x2 y2 G NUM DEN : Nat} (hG : G = Nat.gcd y1 y2) (p1 : 0 < y1) (hD : DEN = y1 / G * y2) (hN : NUM = (x1 * (y2 / G) + x2 * (y1 / G)) % DEN) :
    addX x1 y1 x2 y2 / Nat.gcd (addX x1 y1 x2 y2) (y1 * y2) = NUM / Nat.gcd NUM DEN ∧ y1 * y2 / Nat.gcd (addX x1 y1 x2 y2) (y1 * y2) = DEN / Nat.gcd NUM DEN := by
  obtain ⟨e1, e2⟩ := add_same (x1 := x1) (x2 := x2) hG
  have hG0 : 0 < G := by rw [hG]; exact Nat.gcd_pos_of_pos_left _ p1
  rw [← hD] at e1 e2
  rw [← hN] at e2
  rw [e1, e2, Nat.gcd_mul_left, Nat.mul_div_mul_left _ _ hG0, Nat.mul_div_mul_left _ _ hG0]
  exact ⟨rfl, rfl⟩

/-- What the document's Add tells of a lowest part. -/
def raddV (N D : Nat) : Value := if D ≤ 2147483647 then .tuple #[.agg #[.int .u64 (N : Int), .int .u64 (D : Int)], .int .i64 0] else .tuple #[.agg #[.int .u64 0, .int .u64 0], .int .i64 210]

set_option maxRecDepth 100000 in
set_option maxHeartbeats 2000000 in
/-- filigreeref21.Add -/
theorem radd_any (x1 y1 x2 y2 N D : Nat) (w : World) (k1 : x1 < y1) (l1 : y1 ≤ 2147483647) (k2 : x2 < y2) (l2 : y2 ≤ 2147483647)
    (hN : N = addX x1 y1 x2 y2 / Nat.gcd (addX x1 y1 x2 y2) (y1 * y2)) (hD : D = y1 * y2 / Nat.gcd (addX x1 y1 x2 y2) (y1 * y2)) :
    Calls Try.prog 39 #[.agg #[.int .u64 (x1 : Int), .int .u64 (y1 : Int)], .agg #[.int .u64 (x2 : Int), .int .u64 (y2 : Int)]] w (RetVal (raddV N D) w) := by
  obtain ⟨G, hG⟩ : ∃ G, G = Nat.gcd y1 y2 := ⟨_, rfl⟩
  obtain ⟨Q1, hQ1⟩ : ∃ Q, Q = y1 / G := ⟨_, rfl⟩
  obtain ⟨Q2, hQ2⟩ : ∃ Q, Q = y2 / G := ⟨_, rfl⟩
  obtain ⟨DEN, hDEN⟩ : ∃ Q, Q = Q1 * y2 := ⟨_, rfl⟩
  obtain ⟨T1, hT1⟩ : ∃ Q, Q = x1 * Q2 := ⟨_, rfl⟩
  obtain ⟨T2, hT2⟩ : ∃ Q, Q = x2 * Q1 := ⟨_, rfl⟩
  obtain ⟨NUM, hNUM⟩ : ∃ Q, Q = (T1 + T2) % DEN := ⟨_, rfl⟩
  have p1 : 0 < y1 := by omega
  have p2 : 0 < y2 := by omega
  have hG0 : 0 < G := by rw [hG]; exact Nat.gcd_pos_of_pos_left _ p1
  have hGy : G ≤ y1 := by rw [hG]; exact Nat.gcd_le_left _ p1
  have q1 : Q1 ≤ 2147483647 := by rw [hQ1]; exact Nat.le_trans (Nat.div_le_self _ _) l1
  have q2 : Q2 ≤ 2147483647 := by rw [hQ2]; exact Nat.le_trans (Nat.div_le_self _ _) l2
  have q10 : 0 < Q1 := by rw [hQ1]; exact Nat.div_pos hGy hG0
  have mD : DEN ≤ 4611686014132420609 := by rw [hDEN]; exact Nat.mul_le_mul q1 l2
  have mD0 : 0 < DEN := by rw [hDEN]; exact Nat.mul_pos q10 p2
  have m1 : T1 ≤ 4611686014132420609 := by rw [hT1]; exact Nat.mul_le_mul (show x1 ≤ 2147483647 by omega) q2
  have m2 : T2 ≤ 4611686014132420609 := by rw [hT2]; exact Nat.mul_le_mul (show x2 ≤ 2147483647 by omega) q1
  have hl := add_low (x1 := x1) (x2 := x2) (NUM := NUM) (DEN := DEN) hG p1 (by rw [hDEN, hQ1]) (by rw [hNUM, hT1, hT2, hQ1, hQ2])
  have eN : Hid (N = NUM / Nat.gcd NUM DEN) := Lib.hid (by rw [hN]; exact hl.1)
  have eD : Hid (D = DEN / Nat.gcd NUM DEN) := Lib.hid (by rw [hD]; exact hl.2)
  have hNs : NUM < DEN := by rw [hNUM]; exact Nat.mod_lt _ mD0
  have eX : Hid (NUM = NUM % DEN) := Lib.hid (Nat.mod_eq_of_lt hNs).symm
  have i1 : (y1 : Int) / (G : Int) = (Q1 : Int) := by rw [hQ1]; rfl
  have i2 : (y2 : Int) / (G : Int) = (Q2 : Int) := by rw [hQ2]; rfl
  have i1' : (y1 : Int).tdiv (G : Int) = (Q1 : Int) := by rw [hQ1]; rfl
  have i2' : (y2 : Int).tdiv (G : Int) = (Q2 : Int) := by rw [hQ2]; rfl
  have i3 : (Q1 : Int) * (y2 : Int) = (DEN : Int) := by rw [hDEN]; push_cast; rfl
  have i4 : (x1 : Int) * (Q2 : Int) = (T1 : Int) := by rw [hT1]; push_cast; rfl
  have i5 : (x2 : Int) * (Q1 : Int) = (T2 : Int) := by rw [hT2]; push_cast; rfl
  have i6 : ((T1 : Int) + (T2 : Int)) % (DEN : Int) = (NUM : Int) := by rw [hNUM]; push_cast; rfl
  have i6' : ((T1 : Int) + (T2 : Int)).tmod (DEN : Int) = (NUM : Int) := by rw [hNUM]; exact tmod_nat (T1 + T2) DEN
  have w1 : IntKind.u64.wrap (Q1 : Int) = (Q1 : Int) := by rw [IntKind.wrap_u64]; omega
  have w2 : IntKind.u64.wrap (Q2 : Int) = (Q2 : Int) := by rw [IntKind.wrap_u64]; omega
  have w3 : IntKind.u64.wrap (DEN : Int) = (DEN : Int) := by rw [IntKind.wrap_u64]; omega
  have w4 : IntKind.u64.wrap (T1 : Int) = (T1 : Int) := by rw [IntKind.wrap_u64]; omega
  have w5 : IntKind.u64.wrap (T2 : Int) = (T2 : Int) := by rw [IntKind.wrap_u64]; omega
  have w6 : IntKind.u64.wrap ((T1 : Int) + (T2 : Int)) = (T1 : Int) + (T2 : Int) := by rw [IntKind.wrap_u64]; omega
  have w7 : IntKind.u64.wrap (NUM : Int) = (NUM : Int) := by rw [IntKind.wrap_u64]; omega
  have hG1 : ¬ (G : Int) = 0 := by omega
  have hD1 : ¬ (DEN : Int) = 0 := by omega
  have bN : Hid (NUM < 18446744073709551616) := Lib.hid (by omega)
  have bD : Hid (DEN < 18446744073709551616) := Lib.hid (by omega)
  have hDD : D ≤ DEN := by rw [eD.out]; exact Nat.div_le_self _ _
  replace mD0 := Lib.hid mD0
  replace hG := Lib.hid hG
  have y1s : Hid (y1 < 18446744073709551616) := Lib.hid (by omega)
  have y2s : Hid (y2 < 18446744073709551616) := Lib.hid (by omega)
  have hK1 := ((Blk.new w 34 #[.int .u64 (x1 : Int), .int .u64 (y1 : Int)]).alloc (.cells #[.int .u64 (x2 : Int), .int .u64 (y2 : Int)] 34)).alloc (.cells #[.int .u64 0, .int .u64 0] 34)
  have hK2 := (Blk.new (w.alloc (.cells #[.int .u64 (x1 : Int), .int .u64 (y1 : Int)] 34)) 34 #[.int .u64 (x2 : Int), .int .u64 (y2 : Int)]).alloc (.cells #[.int .u64 0, .int .u64 0] 34)
  have hK3 := Blk.new ((w.alloc (.cells #[.int .u64 (x1 : Int), .int .u64 (y1 : Int)] 34)).alloc (.cells #[.int .u64 (x2 : Int), .int .u64 (y2 : Int)] 34)) 34 #[.int .u64 0, .int .u64 0]
  rw [show (w.alloc (.cells #[.int .u64 (x1 : Int), .int .u64 (y1 : Int)] 34)).heap.size = w.heap.size + 1 by simp] at hK2
  rw [show ((w.alloc (.cells #[.int .u64 (x1 : Int), .int .u64 (y1 : Int)] 34)).alloc (.cells #[.int .u64 (x2 : Int), .int .u64 (y2 : Int)] 34)).heap.size = w.heap.size + 2 by simp] at hK3
  have hBW : Below w.heap.size w (((w.alloc (.cells #[.int .u64 (x1 : Int), .int .u64 (y1 : Int)] 34)).alloc (.cells #[.int .u64 (x2 : Int), .int .u64 (y2 : Int)] 34)).alloc (.cells #[.int .u64 0, .int .u64 0] 34)) := (((Below.refl _ w).alloc (Nat.le_refl _) _).alloc (by simp) _).alloc (by simp; omega) _
  replace hK1 := Lib.hid hK1
  replace hK2 := Lib.hid hK2
  replace hK3 := Lib.hid hK3
  replace hBW := Lib.hid hBW
  clear hQ1 hQ2 hDEN hT1 hT2 hNUM p1 p2 hG0 hGy q1 q2 q10 m1 m2 hl hN hD hNs k1 k2 l1 l2
  go_enter Try.func39, Try.ntmps39
  go_wp2_with fail
  refine (rgcd_any y1 y2 _ y1s.out y2s.out).mono ?_
  rintro e v1 ⟨rfl, hdr⟩
  rw [← hG.out]
  replace hK1 := Blk.dr hdr hK1.out
  replace hK2 := Blk.dr hdr hK2.out
  replace hK3 := Lib.hid (Blk.dr hdr hK3.out)
  replace hBW := Lib.hid (below_dr hdr hBW.out)
  have c10 : v1.cell? ⟨w.heap.size, 0, none⟩ = some (.int .u64 (x1 : Int)) := hK1.cell 0
  have c11 : v1.cell? ⟨w.heap.size, 1, none⟩ = some (.int .u64 (y1 : Int)) := hK1.cell 1
  have c20 : v1.cell? ⟨w.heap.size + 1, 0, none⟩ = some (.int .u64 (x2 : Int)) := hK2.cell 0
  have c21 : v1.cell? ⟨w.heap.size + 1, 1, none⟩ = some (.int .u64 (y2 : Int)) := hK2.cell 1
  clear hdr hK1 hK2
  go_wp2_with fail
  go_quiet (fail)
  go_wp2_with fail
  go_quiet (fail)
  go_wp2_with fail
  refine (low_any NUM DEN NUM N D _ bN.out bD.out mD0.out eX eN eD).mono ?_
  rintro e v2 ⟨rfl, hb⟩
  have k3 := (Blk.below (Blk.drewN hK3.out _) hb).alloc (.cells #[.int .u64 (N : Int), .int .u64 (D : Int)] 34)
  have ks := Blk.new v2 34 #[.int .u64 (N : Int), .int .u64 (D : Int)]
  have hB2 := (below_drewN hBW.out _).trans (hb.mono (below_drewN hBW.out _).size)
  replace hB2 := hB2.alloc hB2.size (.cells #[.int .u64 (N : Int), .int .u64 (D : Int)] 34)
  have hz : w.heap.size + 2 ≠ v2.heap.size := by
    have h1 := (Blk.below (Blk.drewN hK3.out _) hb).lt
    omega
  clear hb hK3 hBW c10 c11 c20 c21 i1 i2 i1' i2' i3 i4 i5 i6 i6' w1 w2 w3 w4 w5 w6 w7
  go_upto_region 5 with fail
  generalize hv2 : v2.alloc (.cells #[.int .u64 (N : Int), .int .u64 (D : Int)] 34) = v3 at k3 ks hB2 ⊢
  generalize hg : v2.heap.size = g at *
  have r0 : v3.cell? ⟨w.heap.size + 2, 0, none⟩ = some (.int .u64 0) := k3.cell 0
  have r1 : v3.cell? ⟨w.heap.size + 2, 1, none⟩ = some (.int .u64 0) := k3.cell 1
  have f0 := k3.frozen 0
  have f1 := k3.frozen 1
  have s0 : v3.cell? ⟨g, 0, none⟩ = some (.int .u64 (N : Int)) := ks.cell 0
  have s1 : v3.cell? ⟨g, 1, none⟩ = some (.int .u64 (D : Int)) := ks.cell 1
  replace hB2 := Lib.hid hB2
  clear hv2 hg k3 ks
  by_cases hle : D ≤ 2147483647
  · have hv : Hid (raddV N D = .tuple #[.agg #[.int .u64 (N : Int), .int .u64 (D : Int)], .int .i64 0]) := Lib.hid (by simp [raddV, hle])
    have hI : ¬ (2147483647 : Int) < (D : Int) := by omega
    clear hDD hle
    go_wp2_with fail
    refine bodyPost_ret (v := .tuple #[.agg #[.int .u64 (N : Int), .int .u64 (D : Int)], .int .i64 0]) (by simp [results, Try.results39, go_sem, r0, r1]) rfl ⟨by rw [hv.out], ?_⟩
    exact (hB2.out.setCell (p := ⟨w.heap.size + 2, 0, none⟩) (by simp) _).setCell (p := ⟨w.heap.size + 2, 1, none⟩) (by simp) _
  · have hv : Hid (raddV N D = .tuple #[.agg #[.int .u64 0, .int .u64 0], .int .i64 210]) := Lib.hid (by simp [raddV, hle])
    have hI : (2147483647 : Int) < (D : Int) := by omega
    clear hDD hle
    go_wp2_with fail
    refine bodyPost_ret (v := .tuple #[.agg #[.int .u64 0, .int .u64 0], .int .i64 210]) (by simp [results, Try.results39, go_sem, r0, r1]) rfl ⟨by rw [hv.out], ?_⟩
    exact (hB2.out.setCell (p := ⟨w.heap.size + 2, 0, none⟩) (by simp) _).setCell (p := ⟨w.heap.size + 2, 1, none⟩) (by simp) _
end Go.Proofs.Ytciafmnideihjaa
