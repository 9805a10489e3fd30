/- The document's answer: filigreeref02.made, Of. -/
import Derived.Test.YtciafmnideihjaaRefA
import Derived.Test.YtciafmnideihjaaAngH
namespace Go.Proofs.Ytciafmnideihjaa
open Go.RowKit

theorem be_zero_cons (l : List Nat) : be (0 :: l) = be l := by simp [be]
theorem take_succ_rev {l : List Nat} {k x : Nat} (h : l[k]? = some x) : (l.take (k + 1)).reverse = x :: (l.take k).reverse := by
  have hlt := lt_of_getElem? h
  have e : l[k] = x := by rw [List.getElem?_eq_getElem hlt] at h; exact Option.some.inj h
  rw [List.take_succ_eq_append_getElem hlt, e]
  simp
theorem rev_row {l O : List Nat} {n : Nat} (hn : n ≤ l.length) (hO : O.length = n) (h : ∀ t, t < n → O[n - 1 - t]? = l[t]?) : O = (l.take n).reverse := by
  apply List.ext_getElem?
  intro j
  by_cases hj : j < n
  · have h1 := h (n - 1 - j) (by omega)
    rw [show n - 1 - (n - 1 - j) = j by omega] at h1
    have hlen : (l.take n).length = n := by rw [List.length_take]; omega
    rw [h1, List.getElem?_reverse (by rw [hlen]; exact hj), hlen, List.getElem?_take, if_pos (by omega)]
  · rw [List.getElem?_eq_none (by omega), List.getElem?_eq_none (by rw [List.length_reverse, List.length_take]; omega)]

/-- A number's digits, the lowest first, as a string. -/
def madeS (l : List Nat) : ByteArray := natS (be l.reverse)

set_option maxRecDepth 100000 in
set_option maxHeartbeats 1000000 in
/-- filigreeref02.made -/
theorem made_any (v : Value) (l : List Nat) (w : World) (h : Rd .i64 3 w v l) (hs : ∀ x, x ∈ l → x < 256) (hlen : l.length ≤ 1073741824) :
    Calls Try.prog 93 #[v] w (RetVal (.string (madeS l)) w) := by
  obtain ⟨A, c, rfl, h1, h2, h3⟩ := id h
  have h := Lib.hid h
  have h3 := Lib.hid h3
  replace hs := Lib.hid hs
  obtain ⟨K, hK⟩ : ∃ K, K = l.length := ⟨_, rfl⟩
  rw [← hK] at h1 hlen ⊢
  have HK := Lib.hid hK
  clear hK
  go_enter Try.func93, Try.ntmps93
  go_wp2
  go_loop [3] (fun n => ∃ m : Nat, n = .int .i64 (m : Int) ∧ m ≤ K ∧ be (l.take m).reverse = be l.reverse) (fun n => (intOf n).toNat)
  case atStart => exact ⟨K, rfl, Nat.le_refl _, by rw [HK.out, List.take_length]⟩
  case round =>
    obtain ⟨m, rfl, hm, hbe⟩ := hrel
    have hfin : ∀ x, (m = 0 ∨ (l[m - 1]? = some x ∧ x ≠ 0)) → madeS l = ⟨((l.take m).reverse.map UInt8.ofNat).toArray⟩ := by
      intro x hx
      unfold madeS natS
      rw [← hbe, natL_be]
      · intro y hy
        exact hs.out y (List.mem_of_mem_take (List.mem_reverse.1 hy))
      · rcases hx with rfl | ⟨hx, hx0⟩
        · simp
        · rcases Nat.eq_zero_or_pos m with h0 | h0
          · rw [h0]; simp
          · have e := take_succ_rev hx
            rw [show m - 1 + 1 = m by omega] at e
            rw [e]
            simpa using hx0
    replace hbe := Lib.hid hbe
    replace hfin := Lib.hid hfin
    have hrest : True := trivial
    by_cases h0 : 0 < m
    · have h0I : (0 : Int) < (m : Int) := by omega
      obtain ⟨x, hx⟩ : ∃ x, l[m - 1]? = some x := ⟨_, List.getElem?_eq_getElem (by rw [← HK.out]; omega)⟩
      obtain ⟨ga, oa, ca, La, ea, -, -, hAa, hLa⟩ := h.out.open_ (fun e => by have := HK.out; rw [e] at this; simp at this; omega)
      injection ea with ea1 _ ea2
      subst ea1 ea2
      obtain ⟨q, hq⟩ : ∃ q, q = m - 1 := ⟨_, rfl⟩
      have hqi : (m : Int) - 1 = (q : Int) := by omega
      have hmq : m = q + 1 := by omega
      rw [← hq] at hx
      have hcx : w.cell? ⟨ga, oa + q, none⟩ = some (.int .i64 (x : Int)) := hAa.cell (hLa _ _ hx)
      by_cases hx0 : x = 0
      · subst hx0
        have hbe2 : Hid (be (l.take q).reverse = be l.reverse) := Lib.hid (by
          have e := take_succ_rev hx
          rw [← hbe.out, hmq, e, be_zero_cons])
        clear hx hq hfin
        go_wp2
        go_round
        case rel => exact ⟨q, by go_num, by omega, hbe2.out⟩
        case measure => simp [intOf]; omega
      · have hx0I : ((x : Int) == 0) = false := by simp; omega
        have hf := Lib.hid (hfin.out x (Or.inr ⟨by rw [← hq]; exact hx, hx0⟩))
        have hmk := make_u8 m (by omega)
        have hqK : q < K := by omega
        clear hfin hx hq hx0 hmq
        go_wp2
        clear hqi hqK
        have hA0 := Arr.new w .u8 5 (List.replicate m 0)
        have hB0 : Below w.heap.size w (w.alloc (.cells (ivs .u8 (List.replicate m 0)).toArray 5)) := (Below.refl _ _).alloc (Nat.le_refl _) _
        generalize hw0 : w.alloc (.cells (ivs .u8 (List.replicate m 0)).toArray 5) = w0 at hA0 hB0 ⊢
        generalize hg : w.heap.size = g at *
        have HG := Lib.hid hg
        clear hw0 hg hmk hcx hx0I
        go_loopw [5] (fun i wr => ∃ (k : Nat) (O : List Nat), i = .int .i64 (k : Int) ∧ k ≤ m ∧ O.length = m ∧ (∀ x, x ∈ O → x < 256) ∧ (∀ t, t < k → O[m - 1 - t]? = l[t]?) ∧ Arr wr g .u8 5 O ∧ Below g w wr) (fun i _ => m - (intOf i).toNat)
        case atStart => exact ⟨0, _, rfl, Nat.zero_le _, by simp, fun x hx => by rw [List.eq_of_mem_replicate hx]; omega, fun t ht => absurd ht (by omega), hA0, hB0⟩
        case round =>
          obtain ⟨i, O, rfl, hi, hO, hOs, hOv, hA, hB⟩ := hrel
          replace hO := Lib.hid hO
          replace hOs := Lib.hid hOs
          replace hOv := Lib.hid hOv
          by_cases hi0 : i < m
          · obtain ⟨y, hy⟩ : ∃ y, l[i]? = some y := ⟨_, List.getElem?_eq_getElem (by rw [← HK.out]; omega)⟩
            have hys : y < 256 := hs.out y (List.mem_of_getElem? hy)
            have hcy : wr.cell? ⟨ga, oa + i, none⟩ = some (.int .i64 (y : Int)) := (hB.cell (by have := hAa.lt; rw [HG.out] at this; exact this)).trans (hAa.cell (hLa _ _ hy))
            obtain ⟨k, hk⟩ : ∃ k, k = m - 1 - i := ⟨_, rfl⟩
            have hki : (m : Int) - 1 - (i : Int) = (k : Int) := by omega
            have hkL : k < m := by omega
            obtain ⟨z, hz⟩ : ∃ z, O[k]? = some z := ⟨_, List.getElem?_eq_getElem (by rw [hO.out]; exact hkL)⟩
            have hcz : wr.cell? ⟨g, k, none⟩ = some (.int .u8 (z : Int)) := hA.cell hz
            have hfz : wr.frozen? ⟨g, k, none⟩ = false := hA.frozen _
            have HV2 : Hid (∀ t, t < i + 1 → (O.set k y)[m - 1 - t]? = l[t]?) := Lib.hid (fun t ht => by
              by_cases hti : t = i
              · subst hti
                rw [← hk, List.getElem?_set_self (by rw [hO.out]; exact hkL), hy]
              · rw [List.getElem?_set_ne (by omega)]
                exact hOv.out t (by omega))
            have HS2 : Hid (∀ x, x ∈ O.set k y → x < 256) := Lib.hid (fun x hx => by
              rcases List.mem_or_eq_of_mem_set hx with h1 | h1
              · exact hOs.out x h1
              · rw [h1]; exact hys)
            have hym : (y : Int) % 256 = (y : Int) := by omega
            clear hy hz hk
            go_wp2
            go_roundw
            case rel => exact ⟨i + 1, O.set k y, by go_num, by omega, by rw [List.length_set]; exact hO.out, HS2.out, HV2.out, hA.set_ _ _, hB.setCell (Nat.le_refl _) _⟩
            case measure => simp [intOf]; omega
          · obtain rfl : i = m := by omega
            have HO : Hid (O = (l.take i).reverse) := Lib.hid (rev_row (by rw [← HK.out]; omega) hO.out hOv.out)
            have hcv := conv_str wr g O i hA hOs.out 9 Try.underlying9
            rw [hO.out] at hcv
            go_wp2
            go_ret
            exact ⟨by rw [hf.out, ← HO.out]; rfl, by rw [HG.out]; exact hB⟩
    · obtain rfl : m = 0 := by omega
      have hf := Lib.hid (hfin.out 0 (Or.inl rfl))
      have hmk : ∀ w : World, (Instr.makeSlice 81 (.int .i64 0) (.int .i64 0)).run Try.prog w = .ok (.slice (some ⟨w.heap.size, 0, none⟩) 0 0) (w.alloc (.cells #[] 5)) := fun w => make_u8 0 (by omega) w
      clear hfin hbe
      go_wp2
      have hA0 := Arr.new w .u8 5 []
      have hcv : (convert 81 9 (.slice (some ⟨w.heap.size, 0, none⟩) 0 0)).run Try.prog (w.alloc (.cells #[] 5)) = .ok (.string ⟨#[]⟩) (w.alloc (.cells #[] 5)) := conv_str (w.alloc (.cells #[] 5)) w.heap.size [] 0 hA0 (fun x hx => by cases hx) 9 Try.underlying9
      go_loop [5] (fun i => i = .int .i64 0) (fun _ => 0)
      case atStart => rfl
      case round =>
        subst hrel
        go_wp2
        go_ret
        exact ⟨by rw [hf.out]; rfl, (Below.refl _ _).alloc (Nat.le_refl _) _⟩
end Go.Proofs.Ytciafmnideihjaa
