/- Package nat and ratio: strings as numbers: whole, may, Check. · The bytes of a number, digits to the base 256. Plain arithmetic. · Package nat: limbs: cut, len, shut; Of. -/
import Derived.Test.YtoaggmegmgdgbaaBig
namespace Go.Proofs.Ytoaggmegmgdgbaa
open Go.RowKit

/-- A string's bytes. -/
def sl (s : ByteArray) : List Nat := s.data.toList.map fun b => b.toNat
theorem sl_len (s : ByteArray) : (sl s).length = s.size := by simp [sl]
theorem sl_lt (s : ByteArray) : ∀ x, x ∈ sl s → x < 256 := by
  intro x hx
  obtain ⟨b, _, rfl⟩ := List.mem_map.1 hx
  exact b.toNat_lt
theorem sl_get (s : ByteArray) (i : Nat) (h : i < s.size) : (sl s)[i]? = some (s[i].toNat) := by
  have h' : i < s.data.size := h
  simp only [sl, List.getElem?_map, Array.getElem?_toList, Array.getElem?_eq_getElem h']
  rfl

/-- May the string be a number? -/
def mayB (s : ByteArray) : Bool := decide (s.size ≤ 16384) && !decide ((sl s).head? = some 0)

theorem BS.drew {w : World} {p o : Nat} (h : BS w p o) : BS w.drew p o := h

/-- What '[]byte(s)' makes reads as the string's bytes. -/
theorem rd_bytes (w : World) (s : ByteArray) (T : TypeId) (C : Nat) (fr : Nat × Nat) (h1 : s.size ≤ C) (h2 : C ≤ maxLen) : Rd .u8 T (w.alloc (.cells (bytesRow s C) T fr)) (.slice (some ⟨w.heap.size, 0, none⟩) s.size C) (sl s) := by
  refine ⟨_, C, by rw [sl_len], by rw [sl_len]; exact h1, h2, fun _ => ⟨w.heap.size, 0, fun j => (sl s)[j]?, rfl, ⟨_, fr, heap_alloc_new w _, fun j x hj => ?_⟩, fun j x hj => by simpa using hj⟩⟩
  replace hj : (sl s)[j]? = some x := hj
  have hlt := lt_of_getElem? hj
  rw [sl_len] at hlt
  have e := bytesRow_at s C j hlt
  rw [sl_get s j hlt] at hj
  cases hj
  exact e

set_option maxHeartbeats 400000 in
/-- ratio.whole: a string's number. -/
theorem whole_any (s : ByteArray) (w : World) (hs : s.size ≤ 1073741824) : Calls Try.prog 54 #[.string s] w (RetNew ((be (sl s) : Nat) : Int) w) := by
  have kc := fun w : World => run_bytes_of_string (P := Try.prog) w 23 122 5 s Try.underlying23 Try.underlying122 Try.underlying5
  go_enter Try.func54, Try.ntmps54
  go_wp2_with fail
  obtain ⟨C, hC⟩ : ∃ C, C = grownCap (w.alloc (Obj.cells #[Value.bool false, Value.slice none 0 0] 103)) s.size 0 5 := ⟨_, rfl⟩
  have h1 : s.size ≤ C := by rw [hC]; exact grownCap_ge _ _ _ _
  have h2 : C ≤ maxLen := by rw [hC]; exact grownCap_le_maxLen _ _ _ _ (by unfold maxLen; omega)
  rw [← hC]
  clear hC kc
  have hR := rd_bytes (w.alloc (Obj.cells #[Value.bool false, Value.slice none 0 0] 103)) s 5 C ((bytesRow s C).size, (bytesRow s C).size + 1) h1 h2
  rw [show (w.alloc (Obj.cells #[Value.bool false, Value.slice none 0 0] 103)).heap.size = w.heap.size + 1 by simp] at hR
  have hs0 := ((Big.new w).slot.alloc (.cells (bytesRow s C) 5 ((bytesRow s C).size, (bytesRow s C).size + 1)))
  have hb0 : Below w.heap.size w ((w.alloc (Obj.cells #[Value.bool false, Value.slice none 0 0] 103)).alloc (.cells (bytesRow s C) 5 ((bytesRow s C).size, (bytesRow s C).size + 1))).drew := (((Below.refl _ _).alloc (Nat.le_refl _) _).alloc (by simp) _).drew
  refine (setBytes_any _ 0 _ (sl s) _ hs0.drew hR.drew (sl_lt s) (by rw [sl_len]; exact hs)).mono ?_
  rintro e w2 ⟨rfl, hb, hg⟩
  have hb := Lib.hid hb
  have hg := Lib.hid hg
  have hb0 := Lib.hid hb0
  clear hR hs0
  go_wp2
  go_ret
  exact ⟨w.heap.size, rfl, Nat.le_refl _, hb.out, below_gb hb0.out hg.out (Nat.le_refl _) hb0.out.size⟩

theorem toList_nil_iff (s : ByteArray) : s.toList = [] ↔ s.size = 0 := by
  rw [show s.toList = s.data.toList from ByteArray.toList_eq s, ← List.length_eq_zero_iff]
  rfl

/-- All of the strings may be numbers. -/
def mayAll (ss : List ByteArray) : Bool := ss.all mayB

set_option maxHeartbeats 400000 in
/-- nat.may, of a row of strings. -/
theorem may_any (g : Nat) (ss : List ByteArray) (w : World) (hlen : ss.length ≤ 1000) (hc : ∀ i s, ss[i]? = some s → w.cell? ⟨g, i, none⟩ = some (.string s)) (hsz : ∀ s, s ∈ ss → s.size ≤ 9223372036854775807) :
    Calls Try.prog 57 #[.slice (some ⟨g, 0, none⟩) ss.length ss.length] w fun e w' => e = .returned (.bool (mayAll ss)) ∧ w = w' := by
  have hc := Lib.hid hc
  have hsz := Lib.hid hsz
  obtain ⟨n, hn⟩ : ∃ n, n = ss.length := ⟨_, rfl⟩
  rw [← hn] at hlen ⊢
  have Hn := Lib.hid hn
  clear hn
  go_enter Try.func57, Try.ntmps57
  go_wp2
  go_loop [7] (fun i => ∃ k : Nat, i = .int .i64 (k : Int) ∧ k ≤ n ∧ (ss.take k).all mayB = true) (fun i => n - (intOf i).toNat)
  case atStart => exact ⟨0, rfl, Nat.zero_le _, by simp⟩
  case round =>
    obtain ⟨k, rfl, hk, hall⟩ := hrel
    have hall := Lib.hid hall
    by_cases h0 : k < n
    · have hkl : k < ss.length := by rw [← Hn.out]; exact h0
      obtain ⟨s, hs⟩ : ∃ s, ss[k]? = some s := ⟨_, List.getElem?_eq_getElem hkl⟩
      have hcs := hc.out k s hs
      have hss := hsz.out s (List.mem_of_getElem? hs)
      have hstep : (ss.take (k + 1)).all mayB = ((ss.take k).all mayB && mayB s) := by
        have e : ss[k] = s := by rw [List.getElem?_eq_getElem hkl] at hs; exact Option.some.inj hs
        rw [List.take_succ_eq_append_getElem hkl, List.all_append, e]
        simp
      have hstep := Lib.hid hstep
      have hfalse : mayB s = false → mayAll ss = false := fun h => by
        unfold mayAll
        rw [List.all_eq_false]
        exact ⟨s, List.mem_of_getElem? hs, by rw [h]; decide⟩
      have hfalse := Lib.hid hfalse
      clear hs hkl
      by_cases h1 : 16384 < s.size
      · have h1i : (16384 : Int) < (s.size : Int) := by omega
        have hm : mayB s = false := by simp [mayB]; omega
        have hf := Lib.hid (hfalse.out hm)
        clear hm
        go_wp2
        go_ret
        exact ⟨by rw [hf.out]; rfl, rfl⟩
      · have h1i : ¬ (16384 : Int) < (s.size : Int) := by omega
        by_cases h2 : s.size = 0
        · have ht : s.toList = [] := (toList_nil_iff s).2 h2
          have ht2 : (!s.toList.isEmpty) = false := by rw [ht]; rfl
          have hm : mayB s = true := by
            have : sl s = [] := List.eq_nil_of_length_eq_zero (by rw [sl_len]; exact h2)
            simp [mayB, this]; omega
          have hm := Lib.hid hm
          clear h2
          go_wp2
          go_round
          case rel => exact ⟨k + 1, by go_num, by omega, by rw [hstep.out, hall.out, hm.out]; rfl⟩
          case measure => simp [intOf]; omega
        · have ht : ¬ s.toList = [] := fun e => h2 ((toList_nil_iff s).1 e)
          have ht2 : (!s.toList.isEmpty) = true := by simp [ht]
          have hp : 0 < s.size := by omega
          have hhd : (sl s).head? = some (s[0]'hp).toNat := by rw [List.head?_eq_getElem?]; exact sl_get s 0 hp
          by_cases h3 : (s[0]'hp).toNat = 0
          · have hz : (((s[0]'hp).toNat : Int) == 0) = true := by rw [h3]; rfl
            have hm : mayB s = false := by simp [mayB, hhd, h3]
            have hf := Lib.hid (hfalse.out hm)
            clear hm hhd h3 h2
            go_wp2
            go_ret
            exact ⟨by rw [hf.out]; rfl, rfl⟩
          · have hz : (((s[0]'hp).toNat : Int) == 0) = false := by simp [h3]
            have hm : mayB s = true := by simp [mayB, hhd, h3]; omega
            have hm := Lib.hid hm
            clear hhd h3 h2
            go_wp2
            go_round
            case rel => exact ⟨k + 1, by go_num, by omega, by rw [hstep.out, hall.out, hm.out]; rfl⟩
            case measure => simp [intOf]; omega
    · obtain rfl : k = n := by omega
      have hT : Hid (mayAll ss = true) := Lib.hid (by have := hall.out; rw [Hn.out, List.take_length] at this; exact this)
      go_wp2
      go_ret
      exact ⟨by rw [hT.out]; rfl, rfl⟩
end Go.Proofs.Ytoaggmegmgdgbaa

namespace Go.Proofs.Ytoaggmegmgdgbaa

theorem snocInd {P : List Nat → Prop} (nil : P []) (snoc : ∀ l x, P l → P (l ++ [x])) (l : List Nat) : P l := by
  have h : ∀ m : List Nat, P m.reverse := by
    intro m
    induction m with
    | nil => exact nil
    | cons x m ih => rw [List.reverse_cons]; exact snoc _ _ ih
  have := h l.reverse
  rwa [List.reverse_reverse] at this

def nbF : Nat → Nat → List Nat
  | 0, _ => []
  | f + 1, n => if n = 0 then [] else n % 256 :: nbF f (n / 256)
/-- The bytes of a number, the lowest first, no nought at the end. -/
def nb (n : Nat) : List Nat := nbF n n

theorem nbF_more : ∀ (f n : Nat), n ≤ f → nbF f n = nb n := by
  intro f
  induction f using Nat.strongRecOn with
  | _ f ih =>
    intro n hn
    unfold nb
    cases f with
    | zero => have : n = 0 := by omega
              subst this; rfl
    | succ f =>
      cases n with
      | zero => simp [nbF]
      | succ n =>
        have h1 : (n + 1) / 256 ≤ f := by omega
        have h2 : (n + 1) / 256 ≤ n := by omega
        simp only [nbF]
        rw [ih f (by omega) _ h1]
        by_cases hnf : n < f + 1
        · rw [ih n hnf _ h2]
        · omega
theorem nb_zero : nb 0 = [] := rfl
theorem nb_pos {n : Nat} (h : 0 < n) : nb n = n % 256 :: nb (n / 256) := by
  cases n with
  | zero => omega
  | succ n =>
    show nbF (n + 1) (n + 1) = _
    simp only [nbF]
    rw [if_neg (by omega), nbF_more n _ (by omega)]

theorem nb_lt {n : Nat} : ∀ x, x ∈ nb n → x < 256 := by
  induction n using Nat.strongRecOn with
  | _ n ih =>
    by_cases h : 0 < n
    · rw [nb_pos h]
      intro x hx
      rcases List.mem_cons.1 hx with rfl | hx
      · omega
      · exact ih _ (by omega) x hx
    · have : n = 0 := by omega
      subst this
      intro x hx
      cases hx

theorem nb_get {n : Nat} : ∀ {i : Nat}, i < (nb n).length → (nb n)[i]? = some (n / 256 ^ i % 256) := by
  induction n using Nat.strongRecOn with
  | _ n ih =>
    intro i hi
    by_cases h : 0 < n
    · rw [nb_pos h] at hi ⊢
      cases i with
      | zero => simp
      | succ i =>
        simp only [List.length_cons] at hi
        rw [List.getElem?_cons_succ, ih _ (by omega) (by omega), Nat.pow_succ, Nat.mul_comm, Nat.div_div_eq_div_mul]
    · have : n = 0 := by omega
      subst this
      simp [nb_zero] at hi

theorem nb_bounds {n : Nat} (h : 0 < n) : 256 ^ ((nb n).length - 1) ≤ n ∧ n < 256 ^ (nb n).length := by
  induction n using Nat.strongRecOn with
  | _ n ih =>
    rw [nb_pos h]
    simp only [List.length_cons, Nat.add_sub_cancel]
    by_cases h2 : 0 < n / 256
    · obtain ⟨h3, h4⟩ := ih _ (by omega) h2
      have h5 : 0 < (nb (n / 256)).length := by rw [nb_pos h2]; simp
      constructor
      · have e : (nb (n / 256)).length = (nb (n / 256)).length - 1 + 1 := by omega
        rw [e, Nat.pow_succ]
        have : 256 ^ ((nb (n / 256)).length - 1) * 256 ≤ n / 256 * 256 := Nat.mul_le_mul_right _ h3
        omega
      · rw [Nat.pow_succ]; omega
    · have e : n / 256 = 0 := by omega
      rw [e, nb_zero]
      simp
      omega

/-- The number of bytes, from bounds. -/
theorem nb_len {n L : Nat} (h : 0 < n) (h1 : 256 ^ (L - 1) ≤ n) (h2 : n < 256 ^ L) : (nb n).length = L := by
  obtain ⟨h3, h4⟩ := nb_bounds h
  have hL : 0 < L := by
    rcases Nat.eq_zero_or_pos L with h0 | h0
    · subst h0; simp at h2; omega
    · exact h0
  rcases Nat.lt_trichotomy (nb n).length L with hh | hh | hh
  · have : 256 ^ (nb n).length ≤ 256 ^ (L - 1) := Nat.pow_le_pow_right (by omega) (by omega)
    omega
  · exact hh
  · have : 256 ^ L ≤ 256 ^ ((nb n).length - 1) := Nat.pow_le_pow_right (by omega) (by omega)
    omega

/-- .. from how many bits it has. -/
theorem nb_len_bits {n b : Nat} (h : 0 < n) (hb : 0 < b) (h1 : 2 ^ (b - 1) ≤ n) (h2 : n < 2 ^ b) : (nb n).length = (b + 7) / 8 := by
  have e : (256 : Nat) = 2 ^ 8 := rfl
  refine nb_len h ?_ ?_
  · rw [e, ← Nat.pow_mul]
    exact Nat.le_trans (Nat.pow_le_pow_right (by omega) (by omega)) h1
  · rw [e, ← Nat.pow_mul]
    exact Nat.lt_of_lt_of_le h2 (Nat.pow_le_pow_right (by omega) (by omega))

/-- The bytes, the highest first. -/
def natL (n : Nat) : List Nat := (nb n).reverse
theorem natL_len (n : Nat) : (natL n).length = (nb n).length := by simp [natL]

theorem be_append (l m : List Nat) : be (l ++ m) = be l * 256 ^ m.length + be m := by
  induction m using snocInd with
  | nil => simp [be_nil]
  | snoc m x ih =>
    rw [← List.append_assoc, be_snoc, be_snoc, ih, List.length_append, List.length_singleton, Nat.pow_succ]
    rw [Nat.mul_add, ← Nat.add_assoc]
    congr 2
    ac_rfl

theorem be_natL (n : Nat) : be (natL n) = n := by
  induction n using Nat.strongRecOn with
  | _ n ih =>
    by_cases h : 0 < n
    · unfold natL
      rw [nb_pos h, List.reverse_cons, be_snoc]
      have := ih (n / 256) (by omega)
      unfold natL at this
      rw [this]
      omega
    · have : n = 0 := by omega
      subst this; rfl

theorem natL_head {n : Nat} : (natL n).head? ≠ some 0 := by
  intro h
  have hn : 0 < n := by
    rcases Nat.eq_zero_or_pos n with h0 | h0
    · subst h0; simp [natL, nb_zero] at h
    · exact h0
  obtain ⟨h3, -⟩ := nb_bounds hn
  have hl : 0 < (nb n).length := by rw [nb_pos hn]; simp
  unfold natL at h
  rw [List.head?_reverse, List.getLast?_eq_getElem?, nb_get (by omega)] at h
  have h5 := Option.some.inj h
  obtain ⟨-, h4⟩ := nb_bounds hn
  have e : 256 ^ (nb n).length = 256 * 256 ^ ((nb n).length - 1) := by
    have : (nb n).length = (nb n).length - 1 + 1 := by omega
    rw [this, Nat.pow_succ, Nat.mul_comm, Nat.add_sub_cancel]
  have h6 : n / 256 ^ ((nb n).length - 1) < 256 := by
    rw [Nat.div_lt_iff_lt_mul (Nat.pow_pos (by omega)), ← e]; exact h4
  have h7 : 0 < n / 256 ^ ((nb n).length - 1) := Nat.div_pos h3 (Nat.pow_pos (by omega))
  omega

/-- Bytes without a nought ahead are the number's own. -/
theorem natL_be {l : List Nat} (hl : ∀ x, x ∈ l → x < 256) (h : l.head? ≠ some 0) : natL (be l) = l := by
  induction l using snocInd with
  | nil => rfl
  | snoc l x ih =>
    have hx : x < 256 := hl x (by simp)
    rw [be_snoc]
    by_cases h0 : l = []
    · subst h0
      have hx0 : x ≠ 0 := fun e => h (by simp [e])
      have e0 : 256 * be [] + x = x := by simp [be_nil]
      unfold natL
      rw [e0, nb_pos (by omega), Nat.mod_eq_of_lt hx, Nat.div_eq_of_lt hx, nb_zero]
      rfl
    · have hl' := ih (fun y hy => hl y (by simp [hy])) (by
        cases l with
        | nil => exact absurd rfl h0
        | cons y m => simpa using h)
      have hpos : 0 < be l := by
        rcases Nat.eq_zero_or_pos (be l) with hz | hz
        · rw [hz] at hl'
          exact absurd hl'.symm h0
        · exact hz
      unfold natL at hl' ⊢
      rw [nb_pos (by omega), List.reverse_cons, show (256 * be l + x) / 256 = be l by omega, hl', show (256 * be l + x) % 256 = x by omega]

theorem be_lt {l : List Nat} (hl : ∀ x, x ∈ l → x < 256) : be l < 256 ^ l.length := by
  induction l using snocInd with
  | nil => simp [be_nil]
  | snoc l x ih =>
    have hx : x < 256 := hl x (by simp)
    have := ih (fun y hy => hl y (by simp [hy]))
    rw [be_snoc, List.length_append, List.length_singleton, Nat.pow_succ]
    omega
end Go.Proofs.Ytoaggmegmgdgbaa

namespace Go.Proofs.Ytoaggmegmgdgbaa
open Go.RowKit

/-- How many bits a number has. -/
def bitsN (n : Nat) : Nat := 32 * ((dg n).length - 1) + Go.Lib.bitLen ((dg n).getLastD 0)

theorem bitsN_spec {n : Nat} (h : 0 < n) : 0 < bitsN n ∧ 2 ^ (bitsN n - 1) ≤ n ∧ n < 2 ^ bitsN n := by
  have hl := dg_len_pos h
  obtain ⟨x, hx, hx2⟩ := getElem?_last (l := dg n) (fun e => by rw [e] at hl; simp at hl)
  have hx0 := dg_last n x hx2
  have hxs := getElem?_dg hx
  obtain ⟨b1, b2, b3, b4⟩ := bitLen_spec hxs hx0
  have hD : (dg n).getLastD 0 = x := by rw [List.getLastD_eq_getLast?, hx2]; rfl
  unfold bitsN
  rw [hD]
  generalize Go.Lib.bitLen x = b at *
  have e1 := val_take_drop (dg n) ((dg n).length - 1)
  have e2 : val ((dg n).drop ((dg n).length - 1)) = x := by
    have e := val_drop_cons hx
    have e' : (dg n).drop ((dg n).length - 1 + 1) = [] := List.drop_eq_nil_of_le (by omega)
    rw [e'] at e
    simpa [val] using e
  rw [e2, val_dg, Nat.min_eq_left (by omega)] at e1
  have hb := val_lt ((sm_dg n).take ((dg n).length - 1))
  rw [List.length_take, Nat.min_eq_left (by omega)] at hb
  generalize (dg n).length - 1 = k at *
  have eB : 4294967296 ^ k = 2 ^ (32 * k) := by rw [show (4294967296 : Nat) = 2 ^ 32 from rfl, ← Nat.pow_mul]
  rw [eB] at e1 hb
  refine ⟨by omega, ?_, ?_⟩
  · rw [show 32 * k + b - 1 = 32 * k + (b - 1) by omega, Nat.pow_add]
    have := Nat.mul_le_mul_left (2 ^ (32 * k)) b3
    omega
  · rw [Nat.pow_add]
    have : 2 ^ (32 * k) * (x + 1) ≤ 2 ^ (32 * k) * 2 ^ b := Nat.mul_le_mul_left _ b4
    rw [Nat.mul_add] at this
    omega

theorem bitsN_zero : bitsN 0 = 0 := by decide

theorem nb_len_bitsN (n : Nat) : (nb n).length = (bitsN n + 7) / 8 := by
  rcases Nat.eq_zero_or_pos n with h | h
  · subst h; rw [bitsN_zero]; rfl
  · obtain ⟨h1, h2, h3⟩ := bitsN_spec h
    exact nb_len_bits h h1 h2 h3

set_option maxHeartbeats 400000 in
/-- limbs.cut: the same number, without noughts at the end. -/
theorem cutL_any (v : Value) (l : List Nat) (w : World) (h : Rd .u32 111 w v l) (hs : Sm l) :
    Calls Try.prog 96 #[v] w (RetDgS (val l) w) := by
  by_cases hn : l = []
  · subst hn
    obtain ⟨A, c, rfl, h1, h2, h3⟩ := id h
    have hz : Hid (Rd .u32 111 w (.slice A 0 c) []) := Lib.hid h
    clear h h3
    simp only [List.length_nil]
    go_enter Try.func96, Try.ntmps96
    go_wp2
    refine wp_loop_rounds 1 ?_
    rw [rounds_succ]
    go_wp2
    go_ret
    exact ⟨.slice A 0 c, rfl, hz.out, rfl⟩
  · obtain ⟨g, off, c, L, rfl, h1, h2, hA, hL⟩ := h.open_ hn
    have hm : l.length ≤ 9223372036854775807 := Nat.le_trans h1 (by unfold maxLen at h2; exact h2)
    clear h
    go_enter Try.func96, Try.ntmps96
    go_wp2
    go_loop [3] (fun i => ∃ n : Nat, i = .int .i64 (n : Int) ∧ n ≤ l.length ∧ val (l.take n) = val l) (fun i => (intOf i).toNat)
    case atStart => exact ⟨l.length, rfl, Nat.le_refl _, by simp⟩
    case round =>
      obtain ⟨n, rfl, hn1, hv⟩ := hrel
      have HV := Lib.hid hv
      clear hv
      by_cases h0 : 0 < n
      · obtain ⟨x, hx⟩ : ∃ x, l[n - 1]? = some x := ⟨_, List.getElem?_eq_getElem (by omega)⟩
        have hc : w.cell? ⟨g, off + (n - 1), none⟩ = some (.int .u32 (x : Int)) := hA.cell (hL _ _ hx)
        by_cases hz : x = 0
        · subst hz
          have hv2 : val (l.take (n - 1)) = val l := by
            have := val_take_succ hx
            rw [show n - 1 + 1 = n by omega, HV.out] at this
            omega
          have HV2 := Lib.hid hv2
          clear hx hv2
          go_wp2
          go_round
          case rel => exact ⟨n - 1, by go_num, by omega, HV2.out⟩
          case measure => simp [intOf]; omega
        · have hx0 : ((x : Int) == 0) = false := by simpa using hz
          have HX := Lib.hid hx
          have hpos : 0 < x := by omega
          clear hx hz
          go_wp2
          go_ret
          refine ⟨.slice (some ⟨g, off, none⟩) n c, rfl, ?_, rfl⟩
          unfold Dg
          rw [dg_of_take hs hn1 HV.out (fun _ => ⟨x, HX.out, hpos⟩)]
          refine ⟨_, c, by rw [List.length_take, Nat.min_eq_left hn1], by rw [List.length_take]; omega, h2, fun _ => ⟨g, off, L, rfl, hA, fun j y hj => ?_⟩⟩
          rw [List.getElem?_take] at hj
          split at hj
          · exact hL _ _ hj
          · cases hj
      · obtain rfl : n = 0 := by omega
        go_wp2
        go_ret
        refine ⟨.slice (some ⟨g, off, none⟩) 0 c, rfl, ?_, rfl⟩
        unfold Dg
        rw [dg_of_take hs (Nat.zero_le _) HV.out (fun h => absurd h (by omega))]
        exact ⟨_, c, rfl, by simp, h2, fun h => absurd rfl h⟩

set_option maxHeartbeats 400000 in
/-- limbs.len: how many bits. -/
theorem lenL_any (v : Value) (l : List Nat) (w : World) (h : Rd .u32 111 w v l) (hs : Sm l) (hlen : l.length ≤ 1073741824) :
    Calls Try.prog 86 #[v] w fun e w' => e = .returned (.int .i64 ((bitsN (val l) : Nat) : Int)) ∧ w = w' := by
  have hlv : (dg (val l)).length ≤ 1073741824 := by
    have := dg_len_le_of_lt (val_lt hs)
    omega
  obtain ⟨N, hN⟩ : ∃ N, N = val l := ⟨_, rfl⟩
  have h := Lib.hid h
  rw [← hN] at hlv ⊢
  have HN := Lib.hid hN
  clear hN
  go_enter Try.func86, Try.ntmps86
  go_wp2_with fail
  refine (cutL_any v l w h.out hs).mono ?_
  rintro e w1 ⟨u, rfl, hu, rfl⟩
  rw [← HN.out] at hu
  rcases Nat.eq_zero_or_pos N with h0 | h0
  · subst h0
    obtain ⟨A, c, rfl, h1, h2, h3⟩ := id hu
    have hu := Lib.hid hu
    clear h3
    simp only [dg_zero, List.length_nil]
    go_wp2
    go_ret
    exact ⟨rfl, rfl⟩
  · have hl := dg_len_pos h0
    obtain ⟨g, o, c, L, rfl, h1, h2, hA, hL⟩ := hu.open_ (fun e => by rw [e] at hl; simp at hl)
    obtain ⟨x, hx, hx2⟩ := getElem?_last (l := dg N) (fun e => by rw [e] at hl; simp at hl)
    have hxs := getElem?_dg hx
    have hc : w.cell? ⟨g, o + ((dg N).length - 1), none⟩ = some (.int .u32 (x : Int)) := hA.cell (hL _ _ hx)
    have hb := bitLen_spec hxs (dg_last N x hx2)
    have HB : Hid (bitsN N = 32 * ((dg N).length - 1) + Go.Lib.bitLen x) := Lib.hid (by
      unfold bitsN
      rw [List.getLastD_eq_getLast?, hx2]; rfl)
    obtain ⟨K, hK⟩ : ∃ K, K = (dg N).length := ⟨_, rfl⟩
    rw [← hK] at hlv hl hc HB h1 ⊢
    have hk0 : ((K : Int) == 0) = false := by simp; omega
    have hbl : Go.Lib.bitLen x ≤ 32 := hb.2.1
    clear hu hx hx2 hK hb
    go_wp2_with fail
    refine (Try.bits_Len32 (x : Int) _ (by omega) (by omega)).mono ?_
    rintro e w1 ⟨rfl, rfl⟩
    rw [Int.toNat_natCast]
    obtain ⟨b, hb⟩ : ∃ b, b = Go.Lib.bitLen x := ⟨_, rfl⟩
    rw [← hb] at hbl HB ⊢
    clear hb
    go_wp2
    go_ret
    exact ⟨by rw [HB.out]; simp; omega, rfl⟩
end Go.Proofs.Ytoaggmegmgdgbaa
