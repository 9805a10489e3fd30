/- Package nat and ratio: strings as numbers: whole, may, Check. -/
import Derived.Test.YtciafmnideihjaaBig3
namespace Go.Proofs.Ytciafmnideihjaa
open Go.RowKit

/-- A string's bytes. -/
def sl (s : ByteArray) : List Nat := s.data.toList.map fun b => b.toNat
theorem sl_len (s : ByteArray) : (sl s).length = s.size := by simp [sl]
theorem sl_lt (s : ByteArray) : ∀ x, x ∈ sl s → x < 256 := by
  intro x hx
  obtain ⟨b, _, rfl⟩ := List.mem_map.1 hx
  exact b.toNat_lt
theorem sl_get (s : ByteArray) (i : Nat) (h : i < s.size) : (sl s)[i]? = some (s[i].toNat) := by
  have h' : i < s.data.size := h
  simp only [sl, List.getElem?_map, Array.getElem?_toList, Array.getElem?_eq_getElem h']
  rfl

/-- May the string be a number? -/
def mayB (s : ByteArray) : Bool := decide (s.size ≤ 16384) && !decide ((sl s).head? = some 0)

theorem BS.drew {w : World} {p o : Nat} (h : BS w p o) : BS w.drew p o := h

/-- What '[]byte(s)' makes reads as the string's bytes. -/
theorem rd_bytes (w : World) (s : ByteArray) (T : TypeId) (C : Nat) (fr : Nat × Nat) (h1 : s.size ≤ C) (h2 : C ≤ maxLen) : Rd .u8 T (w.alloc (.cells (bytesRow s C) T fr)) (.slice (some ⟨w.heap.size, 0, none⟩) s.size C) (sl s) := by
  refine ⟨_, C, by rw [sl_len], by rw [sl_len]; exact h1, h2, fun _ => ⟨w.heap.size, 0, sl s, rfl, ⟨_, fr, heap_alloc_new w _, fun j x hj => ?_⟩, fun j x hj => by simpa using hj⟩⟩
  have hlt := lt_of_getElem? hj
  rw [sl_len] at hlt
  have e := bytesRow_at s C j hlt
  rw [sl_get s j hlt] at hj
  cases hj
  exact e

set_option maxHeartbeats 400000 in
/-- ratio.whole: a string's number. -/
theorem whole_any (s : ByteArray) (w : World) (hs : s.size ≤ 1073741824) : Calls Try.prog 112 #[.string s] w (RetNew ((be (sl s) : Nat) : Int) w) := by
  have kc := fun w : World => run_bytes_of_string (P := Try.prog) w 22 81 5 s Try.underlying22 Try.underlying81 Try.underlying5
  go_enter Try.func112, Try.ntmps112
  go_wp2_with fail
  obtain ⟨C, hC⟩ : ∃ C, C = grownCap (w.alloc (Obj.cells #[Value.bool false, Value.slice none 0 0] 120)) s.size 0 5 := ⟨_, rfl⟩
  have h1 : s.size ≤ C := by rw [hC]; exact grownCap_ge _ _ _ _
  have h2 : C ≤ maxLen := by rw [hC]; exact grownCap_le_maxLen _ _ _ _ (by unfold maxLen; omega)
  rw [← hC]
  clear hC kc
  have hR := rd_bytes (w.alloc (Obj.cells #[Value.bool false, Value.slice none 0 0] 120)) s 5 C ((bytesRow s C).size, (bytesRow s C).size + 1) h1 h2
  rw [show (w.alloc (Obj.cells #[Value.bool false, Value.slice none 0 0] 120)).heap.size = w.heap.size + 1 by simp] at hR
  have hs0 := ((Big.new w).slot.alloc (.cells (bytesRow s C) 5 ((bytesRow s C).size, (bytesRow s C).size + 1)))
  have hb0 : Below w.heap.size w ((w.alloc (Obj.cells #[Value.bool false, Value.slice none 0 0] 120)).alloc (.cells (bytesRow s C) 5 ((bytesRow s C).size, (bytesRow s C).size + 1))).drew := (((Below.refl _ _).alloc (Nat.le_refl _) _).alloc (by simp) _).drew
  refine (setBytes_any _ 0 _ (sl s) _ hs0.drew hR.drew (sl_lt s) (by rw [sl_len]; exact hs)).mono ?_
  rintro e w2 ⟨rfl, hb, hg⟩
  have hb := Lib.hid hb
  have hg := Lib.hid hg
  have hb0 := Lib.hid hb0
  clear hR hs0
  go_wp2
  go_ret
  exact ⟨w.heap.size, rfl, Nat.le_refl _, hb.out, below_gb hb0.out hg.out (Nat.le_refl _) hb0.out.size⟩

theorem toList_nil_iff (s : ByteArray) : s.toList = [] ↔ s.size = 0 := by
  rw [show s.toList = s.data.toList from ByteArray.toList_eq s, ← List.length_eq_zero_iff]
  rfl

/-- All of the strings may be numbers. -/
def mayAll (ss : List ByteArray) : Bool := ss.all mayB

set_option maxHeartbeats 400000 in
/-- nat.may, of a row of strings. -/
theorem may_any (g : Nat) (ss : List ByteArray) (w : World) (hlen : ss.length ≤ 1000) (hc : ∀ i s, ss[i]? = some s → w.cell? ⟨g, i, none⟩ = some (.string s)) (hsz : ∀ s, s ∈ ss → s.size ≤ 9223372036854775807) :
    Calls Try.prog 113 #[.slice (some ⟨g, 0, none⟩) ss.length ss.length] w fun e w' => e = .returned (.bool (mayAll ss)) ∧ w = w' := by
  have hc := Lib.hid hc
  have hsz := Lib.hid hsz
  obtain ⟨n, hn⟩ : ∃ n, n = ss.length := ⟨_, rfl⟩
  rw [← hn] at hlen ⊢
  have Hn := Lib.hid hn
  clear hn
  go_enter Try.func113, Try.ntmps113
  go_wp2
  go_loop [7] (fun i => ∃ k : Nat, i = .int .i64 (k : Int) ∧ k ≤ n ∧ (ss.take k).all mayB = true) (fun i => n - (intOf i).toNat)
  case atStart => exact ⟨0, rfl, Nat.zero_le _, by simp⟩
  case round =>
    obtain ⟨k, rfl, hk, hall⟩ := hrel
    have hall := Lib.hid hall
    by_cases h0 : k < n
    · have hkl : k < ss.length := by rw [← Hn.out]; exact h0
      obtain ⟨s, hs⟩ : ∃ s, ss[k]? = some s := ⟨_, List.getElem?_eq_getElem hkl⟩
      have hcs := hc.out k s hs
      have hss := hsz.out s (List.mem_of_getElem? hs)
      have hstep : (ss.take (k + 1)).all mayB = ((ss.take k).all mayB && mayB s) := by
        have e : ss[k] = s := by rw [List.getElem?_eq_getElem hkl] at hs; exact Option.some.inj hs
        rw [List.take_succ_eq_append_getElem hkl, List.all_append, e]
        simp
      have hstep := Lib.hid hstep
      have hfalse : mayB s = false → mayAll ss = false := fun h => by
        unfold mayAll
        rw [List.all_eq_false]
        exact ⟨s, List.mem_of_getElem? hs, by rw [h]; decide⟩
      have hfalse := Lib.hid hfalse
      clear hs hkl
      by_cases h1 : 16384 < s.size
      · have h1i : (16384 : Int) < (s.size : Int) := by omega
        have hm : mayB s = false := by simp [mayB]; omega
        have hf := Lib.hid (hfalse.out hm)
        clear hm
        go_wp2
        go_ret
        exact ⟨by rw [hf.out]; rfl, rfl⟩
      · have h1i : ¬ (16384 : Int) < (s.size : Int) := by omega
        by_cases h2 : s.size = 0
        · have ht : s.toList = [] := (toList_nil_iff s).2 h2
          have ht2 : (!s.toList.isEmpty) = false := by rw [ht]; rfl
          have hm : mayB s = true := by
            have : sl s = [] := List.eq_nil_of_length_eq_zero (by rw [sl_len]; exact h2)
            simp [mayB, this]; omega
          have hm := Lib.hid hm
          clear h2
          go_wp2
          go_round
          case rel => exact ⟨k + 1, by go_num, by omega, by rw [hstep.out, hall.out, hm.out]; rfl⟩
          case measure => simp [intOf]; omega
        · have ht : ¬ s.toList = [] := fun e => h2 ((toList_nil_iff s).1 e)
          have ht2 : (!s.toList.isEmpty) = true := by simp [ht]
          have hp : 0 < s.size := by omega
          have hhd : (sl s).head? = some (s[0]'hp).toNat := by rw [List.head?_eq_getElem?]; exact sl_get s 0 hp
          by_cases h3 : (s[0]'hp).toNat = 0
          · have hz : (((s[0]'hp).toNat : Int) == 0) = true := by rw [h3]; rfl
            have hm : mayB s = false := by simp [mayB, hhd, h3]
            have hf := Lib.hid (hfalse.out hm)
            clear hm hhd h3 h2
            go_wp2
            go_ret
            exact ⟨by rw [hf.out]; rfl, rfl⟩
          · have hz : (((s[0]'hp).toNat : Int) == 0) = false := by simp [h3]
            have hm : mayB s = true := by simp [mayB, hhd, h3]; omega
            have hm := Lib.hid hm
            clear hhd h3 h2
            go_wp2
            go_round
            case rel => exact ⟨k + 1, by go_num, by omega, by rw [hstep.out, hall.out, hm.out]; rfl⟩
            case measure => simp [intOf]; omega
    · obtain rfl : k = n := by omega
      have hT : Hid (mayAll ss = true) := Lib.hid (by have := hall.out; rw [Hn.out, List.take_length] at this; exact this)
      go_wp2
      go_ret
      exact ⟨by rw [hT.out]; rfl, rfl⟩
end Go.Proofs.Ytciafmnideihjaa
