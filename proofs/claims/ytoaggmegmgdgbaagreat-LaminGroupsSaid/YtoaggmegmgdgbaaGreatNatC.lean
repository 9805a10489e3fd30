import Derived.Test.YtoaggmegmgdgbaaGreatBig
namespace Go.Proofs.YtoaggmegmgdgbaaGreat
open Go.RowKit
def sl (s : ByteArray) : List Nat := s.data.toList.map fun b => b.toNat
theorem sl_len (s : ByteArray) : (sl s).length = s.size := by simp [sl]
theorem sl_lt (s : ByteArray) : ∀ x, x ∈ sl s → x < 256 := by
  intro x hx
  obtain ⟨b, _, rfl⟩ := List.mem_map.1 hx
  exact b.toNat_lt
theorem sl_get (s : ByteArray) (i : Nat) (h : i < s.size) : (sl s)[i]? = some (s[i].toNat) := by
  have h' : i < s.data.size := h
  simp only [sl, List.getElem?_map, Array.getElem?_toList, Array.getElem?_eq_getElem h']
  rfl
def mayB (s : ByteArray) : Bool := decide (s.size ≤ 16384) && !decide ((sl s).head? = some 0)
theorem BS.drew {w : World} {p o : Nat} (h : BS w p o) : BS w.drew p o := h
theorem rd_bytes (w : World) (s : ByteArray) (T : TypeId) (C : Nat) (fr : Nat × Nat) (h1 : s.size ≤ C) (h2 : C ≤ maxLen) : Rd .u8 T (w.alloc (.cells (bytesRow s C) T fr)) (.slice (some ⟨w.heap.size, 0, none⟩) s.size C) (sl s) := by
  refine ⟨_, C, by rw [sl_len], by rw [sl_len]; exact h1, h2, fun _ => ⟨w.heap.size, 0, fun j => (sl s)[j]?, rfl, ⟨_, fr, heap_alloc_new w _, fun j x hj => ?_⟩, fun j x hj => by simpa using hj⟩⟩
  replace hj : (sl s)[j]? = some x := hj
  have hlt := lt_of_getElem? hj
  rw [sl_len] at hlt
  have e := bytesRow_at s C j hlt
  rw [sl_get s j hlt] at hj
  cases hj
  exact e
set_option maxHeartbeats 400000 in
theorem whole_any (s : ByteArray) (w : World) (hs : s.size ≤ 1073741824) : Calls Tryz.prog 127 #[.string s] w (RetNew ((be (sl s) : Nat) : Int) w) := by
  have kc := fun w : World => run_bytes_of_string (P := Tryz.prog) w 24 118 5 s Tryz.underlying24 Tryz.underlying118 Tryz.underlying5
  go_enter Tryz.func127, Tryz.ntmps127
  go_wp2_with fail
  obtain ⟨C, hC⟩ : ∃ C, C = grownCap (w.alloc (Obj.cells #[Value.bool false, Value.slice none 0 0] 151)) s.size 0 5 := ⟨_, rfl⟩
  have h1 : s.size ≤ C := by rw [hC]; exact grownCap_ge _ _ _ _
  have h2 : C ≤ maxLen := by rw [hC]; exact grownCap_le_maxLen _ _ _ _ (by unfold maxLen; omega)
  rw [← hC]
  clear hC kc
  have hR := rd_bytes (w.alloc (Obj.cells #[Value.bool false, Value.slice none 0 0] 151)) s 5 C ((bytesRow s C).size, (bytesRow s C).size + 1) h1 h2
  rw [show (w.alloc (Obj.cells #[Value.bool false, Value.slice none 0 0] 151)).heap.size = w.heap.size + 1 by simp] at hR
  have hs0 := ((Big.new w).slot.alloc (.cells (bytesRow s C) 5 ((bytesRow s C).size, (bytesRow s C).size + 1)))
  have hb0 : Below w.heap.size w ((w.alloc (Obj.cells #[Value.bool false, Value.slice none 0 0] 151)).alloc (.cells (bytesRow s C) 5 ((bytesRow s C).size, (bytesRow s C).size + 1))).drew := (((Below.refl _ _).alloc (Nat.le_refl _) _).alloc (by simp) _).drew
  refine (setBytes_any _ 0 _ (sl s) _ hs0.drew hR.drew (sl_lt s) (by rw [sl_len]; exact hs)).mono ?_
  rintro e w2 ⟨rfl, hb, hg⟩
  have hb := Lib.hid hb
  have hg := Lib.hid hg
  have hb0 := Lib.hid hb0
  clear hR hs0
  go_wp2
  go_ret
  exact ⟨w.heap.size, rfl, Nat.le_refl _, hb.out, below_gb hb0.out hg.out (Nat.le_refl _) hb0.out.size⟩
theorem toList_nil_iff (s : ByteArray) : s.toList = [] ↔ s.size = 0 := by
  rw [show s.toList = s.data.toList from ByteArray.toList_eq s, ← List.length_eq_zero_iff]
  rfl
def mayAll (ss : List ByteArray) : Bool := ss.all mayB
set_option maxHeartbeats 400000 in
theorem may_any (g : Nat) (ss : List ByteArray) (w : World) (hlen : ss.length ≤ 1000) (hc : ∀ i s, ss[i]? = some s → w.cell? ⟨g, i, none⟩ = some (.string s)) (hsz : ∀ s, s ∈ ss → s.size ≤ 9223372036854775807) :
    Calls Tryz.prog 162 #[.slice (some ⟨g, 0, none⟩) ss.length ss.length] w fun e w' => e = .returned (.bool (mayAll ss)) ∧ w = w' := by
  have hc := Lib.hid hc
  have hsz := Lib.hid hsz
  obtain ⟨n, hn⟩ : ∃ n, n = ss.length := ⟨_, rfl⟩
  rw [← hn] at hlen ⊢
  have Hn := Lib.hid hn
  clear hn
  go_enter Tryz.func162, Tryz.ntmps162
  go_wp2
  go_loop [7] (fun i => ∃ k : Nat, i = .int .i64 (k : Int) ∧ k ≤ n ∧ (ss.take k).all mayB = true) (fun i => n - (intOf i).toNat)
  case atStart => exact ⟨0, rfl, Nat.zero_le _, by simp⟩
  case round =>
    obtain ⟨k, rfl, hk, hall⟩ := hrel
    have hall := Lib.hid hall
    by_cases h0 : k < n
    · have hkl : k < ss.length := by rw [← Hn.out]; exact h0
      obtain ⟨s, hs⟩ : ∃ s, ss[k]? = some s := ⟨_, List.getElem?_eq_getElem hkl⟩
      have hcs := hc.out k s hs
      have hss := hsz.out s (List.mem_of_getElem? hs)
      have hstep : (ss.take (k + 1)).all mayB = ((ss.take k).all mayB && mayB s) := by
        have e : ss[k] = s := by rw [List.getElem?_eq_getElem hkl] at hs; exact Option.some.inj hs
        rw [List.take_succ_eq_append_getElem hkl, List.all_append, e]
        simp
      have hstep := Lib.hid hstep
      have hfalse : mayB s = false → mayAll ss = false := fun h => by
        unfold mayAll
        rw [List.all_eq_false]
        exact ⟨s, List.mem_of_getElem? hs, by rw [h]; decide⟩
      have hfalse := Lib.hid hfalse
      clear hs hkl
      by_cases h1 : 16384 < s.size
      · have h1i : (16384 : Int) < (s.size : Int) := by omega
        have hm : mayB s = false := by simp [mayB]; omega
        have hf := Lib.hid (hfalse.out hm)
        clear hm
        go_wp2
        go_ret
        exact ⟨by rw [hf.out]; rfl, rfl⟩
      · have h1i : ¬ (16384 : Int) < (s.size : Int) := by omega
        by_cases h2 : s.size = 0
        · have ht : s.toList = [] := (toList_nil_iff s).2 h2
          have ht2 : (!s.toList.isEmpty) = false := by rw [ht]; rfl
          have hm : mayB s = true := by
            have : sl s = [] := List.eq_nil_of_length_eq_zero (by rw [sl_len]; exact h2)
            simp [mayB, this]; omega
          have hm := Lib.hid hm
          clear h2
          go_wp2
          go_round
          case rel => exact ⟨k + 1, by go_num, by omega, by rw [hstep.out, hall.out, hm.out]; rfl⟩
          case measure => simp [intOf]; omega
        · have ht : ¬ s.toList = [] := fun e => h2 ((toList_nil_iff s).1 e)
          have ht2 : (!s.toList.isEmpty) = true := by simp [ht]
          have hp : 0 < s.size := by omega
          have hhd : (sl s).head? = some (s[0]'hp).toNat := by rw [List.head?_eq_getElem?]; exact sl_get s 0 hp
          by_cases h3 : (s[0]'hp).toNat = 0
          · have hz : (((s[0]'hp).toNat : Int) == 0) = true := by rw [h3]; rfl
            have hm : mayB s = false := by simp [mayB, hhd, h3]
            have hf := Lib.hid (hfalse.out hm)
            clear hm hhd h3 h2
            go_wp2
            go_ret
            exact ⟨by rw [hf.out]; rfl, rfl⟩
          · have hz : (((s[0]'hp).toNat : Int) == 0) = false := by simp [h3]
            have hm : mayB s = true := by simp [mayB, hhd, h3]; omega
            have hm := Lib.hid hm
            clear hhd h3 h2
            go_wp2
            go_round
            case rel => exact ⟨k + 1, by go_num, by omega, by rw [hstep.out, hall.out, hm.out]; rfl⟩
            case measure => simp [intOf]; omega
    · obtain rfl : k = n := by omega
      have hT : Hid (mayAll ss = true) := Lib.hid (by have := hall.out; rw [Hn.out, List.take_length] at this; exact this)
      go_wp2
      go_ret
      exact ⟨by rw [hT.out]; rfl, rfl⟩
theorem snocInd {P : List Nat → Prop} (nil : P []) (snoc : ∀ l x, P l → P (l ++ [x])) (l : List Nat) : P l := by
  have h : ∀ m : List Nat, P m.reverse := by
    intro m
    induction m with
    | nil => exact nil
    | cons x m ih => rw [List.reverse_cons]; exact snoc _ _ ih
  have := h l.reverse
  rwa [List.reverse_reverse] at this
def nbF : Nat → Nat → List Nat
  | 0, _ => []
  | f + 1, n => if n = 0 then [] else n % 256 :: nbF f (n / 256)
def nb (n : Nat) : List Nat := nbF n n
theorem nbF_more : ∀ (f n : Nat), n ≤ f → nbF f n = nb n := by
  intro f
  induction f using Nat.strongRecOn with
  | _ f ih =>
    intro n hn
    unfold nb
    cases f with
    | zero => have : n = 0 := by omega
              subst this; rfl
    | succ f =>
      cases n with
      | zero => simp [nbF]
      | succ n =>
        have h1 : (n + 1) / 256 ≤ f := by omega
        have h2 : (n + 1) / 256 ≤ n := by omega
        simp only [nbF]
        rw [ih f (by omega) _ h1]
        by_cases hnf : n < f + 1
        · rw [ih n hnf _ h2]
        · omega
theorem nb_zero : nb 0 = [] := rfl
theorem nb_pos {n : Nat} (h : 0 < n) : nb n = n % 256 :: nb (n / 256) := by
  cases n with
  | zero => omega
  | succ n =>
    show nbF (n + 1) (n + 1) = _
    simp only [nbF]
    rw [if_neg (by omega), nbF_more n _ (by omega)]
theorem nb_lt {n : Nat} : ∀ x, x ∈ nb n → x < 256 := by
  induction n using Nat.strongRecOn with
  | _ n ih =>
    by_cases h : 0 < n
    · rw [nb_pos h]
      intro x hx
      rcases List.mem_cons.1 hx with rfl | hx
      · omega
      · exact ih _ (by omega) x hx
    · have : n = 0 := by omega
      subst this
      intro x hx
      cases hx
theorem nb_get {n : Nat} : ∀ {i : Nat}, i < (nb n).length → (nb n)[i]? = some (n / 256 ^ i % 256) := by
  induction n using Nat.strongRecOn with
  | _ n ih =>
    intro i hi
    by_cases h : 0 < n
    · rw [nb_pos h] at hi ⊢
      cases i with
      | zero => simp
      | succ i =>
        simp only [List.length_cons] at hi
        rw [List.getElem?_cons_succ, ih _ (by omega) (by omega), Nat.pow_succ, Nat.mul_comm, Nat.div_div_eq_div_mul]
    · have : n = 0 := by omega
      subst this
      simp [nb_zero] at hi
theorem nb_bounds {n : Nat} (h : 0 < n) : 256 ^ ((nb n).length - 1) ≤ n ∧ n < 256 ^ (nb n).length := by
  induction n using Nat.strongRecOn with
  | _ n ih =>
    rw [nb_pos h]
    simp only [List.length_cons, Nat.add_sub_cancel]
    by_cases h2 : 0 < n / 256
    · obtain ⟨h3, h4⟩ := ih _ (by omega) h2
      have h5 : 0 < (nb (n / 256)).length := by rw [nb_pos h2]; simp
      constructor
      · have e : (nb (n / 256)).length = (nb (n / 256)).length - 1 + 1 := by omega
        rw [e, Nat.pow_succ]
        have : 256 ^ ((nb (n / 256)).length - 1) * 256 ≤ n / 256 * 256 := Nat.mul_le_mul_right _ h3
        omega
      · rw [Nat.pow_succ]; omega
    · have e : n / 256 = 0 := by omega
      rw [e, nb_zero]
      simp
      omega
theorem nb_len {n L : Nat} (h : 0 < n) (h1 : 256 ^ (L - 1) ≤ n) (h2 : n < 256 ^ L) : (nb n).length = L := by
  obtain ⟨h3, h4⟩ := nb_bounds h
  have hL : 0 < L := by
    rcases Nat.eq_zero_or_pos L with h0 | h0
    · subst h0; simp at h2; omega
    · exact h0
  rcases Nat.lt_trichotomy (nb n).length L with hh | hh | hh
  · have : 256 ^ (nb n).length ≤ 256 ^ (L - 1) := Nat.pow_le_pow_right (by omega) (by omega)
    omega
  · exact hh
  · have : 256 ^ L ≤ 256 ^ ((nb n).length - 1) := Nat.pow_le_pow_right (by omega) (by omega)
    omega
theorem nb_len_bits {n b : Nat} (h : 0 < n) (hb : 0 < b) (h1 : 2 ^ (b - 1) ≤ n) (h2 : n < 2 ^ b) : (nb n).length = (b + 7) / 8 := by
  have e : (256 : Nat) = 2 ^ 8 := rfl
  refine nb_len h ?_ ?_
  · rw [e, ← Nat.pow_mul]
    exact Nat.le_trans (Nat.pow_le_pow_right (by omega) (by omega)) h1
  · rw [e, ← Nat.pow_mul]
    exact Nat.lt_of_lt_of_le h2 (Nat.pow_le_pow_right (by omega) (by omega))
def natL (n : Nat) : List Nat := (nb n).reverse
theorem natL_len (n : Nat) : (natL n).length = (nb n).length := by simp [natL]
theorem be_append (l m : List Nat) : be (l ++ m) = be l * 256 ^ m.length + be m := by
  induction m using snocInd with
  | nil => simp [be_nil]
  | snoc m x ih =>
    rw [← List.append_assoc, be_snoc, be_snoc, ih, List.length_append, List.length_singleton, Nat.pow_succ]
    rw [Nat.mul_add, ← Nat.add_assoc]
    congr 2
    ac_rfl
theorem be_natL (n : Nat) : be (natL n) = n := by
  induction n using Nat.strongRecOn with
  | _ n ih =>
    by_cases h : 0 < n
    · unfold natL
      rw [nb_pos h, List.reverse_cons, be_snoc]
      have := ih (n / 256) (by omega)
      unfold natL at this
      rw [this]
      omega
    · have : n = 0 := by omega
      subst this; rfl
theorem natL_head {n : Nat} : (natL n).head? ≠ some 0 := by
  intro h
  have hn : 0 < n := by
    rcases Nat.eq_zero_or_pos n with h0 | h0
    · subst h0; simp [natL, nb_zero] at h
    · exact h0
  obtain ⟨h3, -⟩ := nb_bounds hn
  have hl : 0 < (nb n).length := by rw [nb_pos hn]; simp
  unfold natL at h
  rw [List.head?_reverse, List.getLast?_eq_getElem?, nb_get (by omega)] at h
  have h5 := Option.some.inj h
  obtain ⟨-, h4⟩ := nb_bounds hn
  have e : 256 ^ (nb n).length = 256 * 256 ^ ((nb n).length - 1) := by
    have : (nb n).length = (nb n).length - 1 + 1 := by omega
    rw [this, Nat.pow_succ, Nat.mul_comm, Nat.add_sub_cancel]
  have h6 : n / 256 ^ ((nb n).length - 1) < 256 := by
    rw [Nat.div_lt_iff_lt_mul (Nat.pow_pos (by omega)), ← e]; exact h4
  have h7 : 0 < n / 256 ^ ((nb n).length - 1) := Nat.div_pos h3 (Nat.pow_pos (by omega))
  omega
theorem natL_be {l : List Nat} (hl : ∀ x, x ∈ l → x < 256) (h : l.head? ≠ some 0) : natL (be l) = l := by
  induction l using snocInd with
  | nil => rfl
  | snoc l x ih =>
    have hx : x < 256 := hl x (by simp)
    rw [be_snoc]
    by_cases h0 : l = []
    · subst h0
      have hx0 : x ≠ 0 := fun e => h (by simp [e])
      have e0 : 256 * be [] + x = x := by simp [be_nil]
      unfold natL
      rw [e0, nb_pos (by omega), Nat.mod_eq_of_lt hx, Nat.div_eq_of_lt hx, nb_zero]
      rfl
    · have hl' := ih (fun y hy => hl y (by simp [hy])) (by
        cases l with
        | nil => exact absurd rfl h0
        | cons y m => simpa using h)
      have hpos : 0 < be l := by
        rcases Nat.eq_zero_or_pos (be l) with hz | hz
        · rw [hz] at hl'
          exact absurd hl'.symm h0
        · exact hz
      unfold natL at hl' ⊢
      rw [nb_pos (by omega), List.reverse_cons, show (256 * be l + x) / 256 = be l by omega, hl', show (256 * be l + x) % 256 = x by omega]
theorem be_lt {l : List Nat} (hl : ∀ x, x ∈ l → x < 256) : be l < 256 ^ l.length := by
  induction l using snocInd with
  | nil => simp [be_nil]
  | snoc l x ih =>
    have hx : x < 256 := hl x (by simp)
    have := ih (fun y hy => hl y (by simp [hy]))
    rw [be_snoc, List.length_append, List.length_singleton, Nat.pow_succ]
    omega
open Go.RowKit
def bitsN (n : Nat) : Nat := 32 * ((dg n).length - 1) + Go.Lib.bitLen ((dg n).getLastD 0)
theorem bitsN_spec {n : Nat} (h : 0 < n) : 0 < bitsN n ∧ 2 ^ (bitsN n - 1) ≤ n ∧ n < 2 ^ bitsN n := by
  have hl := dg_len_pos h
  obtain ⟨x, hx, hx2⟩ := getElem?_last (l := dg n) (fun e => by rw [e] at hl; simp at hl)
  have hx0 := dg_last n x hx2
  have hxs := getElem?_dg hx
  obtain ⟨b1, b2, b3, b4⟩ := bitLen_spec hxs hx0
  have hD : (dg n).getLastD 0 = x := by rw [List.getLastD_eq_getLast?, hx2]; rfl
  unfold bitsN
  rw [hD]
  generalize Go.Lib.bitLen x = b at *
  have e1 := val_take_drop (dg n) ((dg n).length - 1)
  have e2 : val ((dg n).drop ((dg n).length - 1)) = x := by
    have e := val_drop_cons hx
    have e' : (dg n).drop ((dg n).length - 1 + 1) = [] := List.drop_eq_nil_of_le (by omega)
    rw [e'] at e
    simpa [val] using e
  rw [e2, val_dg, Nat.min_eq_left (by omega)] at e1
  have hb := val_lt ((sm_dg n).take ((dg n).length - 1))
  rw [List.length_take, Nat.min_eq_left (by omega)] at hb
  generalize (dg n).length - 1 = k at *
  have eB : 4294967296 ^ k = 2 ^ (32 * k) := by rw [show (4294967296 : Nat) = 2 ^ 32 from rfl, ← Nat.pow_mul]
  rw [eB] at e1 hb
  refine ⟨by omega, ?_, ?_⟩
  · rw [show 32 * k + b - 1 = 32 * k + (b - 1) by omega, Nat.pow_add]
    have := Nat.mul_le_mul_left (2 ^ (32 * k)) b3
    omega
  · rw [Nat.pow_add]
    have : 2 ^ (32 * k) * (x + 1) ≤ 2 ^ (32 * k) * 2 ^ b := Nat.mul_le_mul_left _ b4
    rw [Nat.mul_add] at this
    omega
theorem bitsN_zero : bitsN 0 = 0 := by decide
theorem nb_len_bitsN (n : Nat) : (nb n).length = (bitsN n + 7) / 8 := by
  rcases Nat.eq_zero_or_pos n with h | h
  · subst h; rw [bitsN_zero]; rfl
  · obtain ⟨h1, h2, h3⟩ := bitsN_spec h
    exact nb_len_bits h h1 h2 h3
set_option maxHeartbeats 400000 in
theorem cutL_any (v : Value) (l : List Nat) (w : World) (h : Rd .u32 243 w v l) (hs : Sm l) :
    Calls Tryz.prog 218 #[v] w (RetDgS (val l) w) := by
  by_cases hn : l = []
  · subst hn
    obtain ⟨A, c, rfl, h1, h2, h3⟩ := id h
    have hz : Hid (Rd .u32 243 w (.slice A 0 c) []) := Lib.hid h
    clear h h3
    simp only [List.length_nil]
    go_enter Tryz.func218, Tryz.ntmps218
    go_wp2
    refine wp_loop_rounds 1 ?_
    rw [rounds_succ]
    go_wp2
    go_ret
    exact ⟨.slice A 0 c, rfl, hz.out, rfl⟩
  · obtain ⟨g, off, c, L, rfl, h1, h2, hA, hL⟩ := h.open_ hn
    have hm : l.length ≤ 9223372036854775807 := Nat.le_trans h1 (by unfold maxLen at h2; exact h2)
    clear h
    go_enter Tryz.func218, Tryz.ntmps218
    go_wp2
    go_loop [3] (fun i => ∃ n : Nat, i = .int .i64 (n : Int) ∧ n ≤ l.length ∧ val (l.take n) = val l) (fun i => (intOf i).toNat)
    case atStart => exact ⟨l.length, rfl, Nat.le_refl _, by simp⟩
    case round =>
      obtain ⟨n, rfl, hn1, hv⟩ := hrel
      have HV := Lib.hid hv
      clear hv
      by_cases h0 : 0 < n
      · obtain ⟨x, hx⟩ : ∃ x, l[n - 1]? = some x := ⟨_, List.getElem?_eq_getElem (by omega)⟩
        have hc : w.cell? ⟨g, off + (n - 1), none⟩ = some (.int .u32 (x : Int)) := hA.cell (hL _ _ hx)
        by_cases hz : x = 0
        · subst hz
          have hv2 : val (l.take (n - 1)) = val l := by
            have := val_take_succ hx
            rw [show n - 1 + 1 = n by omega, HV.out] at this
            omega
          have HV2 := Lib.hid hv2
          clear hx hv2
          go_wp2
          go_round
          case rel => exact ⟨n - 1, by go_num, by omega, HV2.out⟩
          case measure => simp [intOf]; omega
        · have hx0 : ((x : Int) == 0) = false := by simpa using hz
          have HX := Lib.hid hx
          have hpos : 0 < x := by omega
          clear hx hz
          go_wp2
          go_ret
          refine ⟨.slice (some ⟨g, off, none⟩) n c, rfl, ?_, rfl⟩
          unfold Dg
          rw [dg_of_take hs hn1 HV.out (fun _ => ⟨x, HX.out, hpos⟩)]
          refine ⟨_, c, by rw [List.length_take, Nat.min_eq_left hn1], by rw [List.length_take]; omega, h2, fun _ => ⟨g, off, L, rfl, hA, fun j y hj => ?_⟩⟩
          rw [List.getElem?_take] at hj
          split at hj
          · exact hL _ _ hj
          · cases hj
      · obtain rfl : n = 0 := by omega
        go_wp2
        go_ret
        refine ⟨.slice (some ⟨g, off, none⟩) 0 c, rfl, ?_, rfl⟩
        unfold Dg
        rw [dg_of_take hs (Nat.zero_le _) HV.out (fun h => absurd h (by omega))]
        exact ⟨_, c, rfl, by simp, h2, fun h => absurd rfl h⟩
set_option maxHeartbeats 400000 in
theorem lenL_any (v : Value) (l : List Nat) (w : World) (h : Rd .u32 243 w v l) (hs : Sm l) (hlen : l.length ≤ 1073741824) :
    Calls Tryz.prog 214 #[v] w fun e w' => e = .returned (.int .i64 ((bitsN (val l) : Nat) : Int)) ∧ w = w' := by
  have hlv : (dg (val l)).length ≤ 1073741824 := by
    have := dg_len_le_of_lt (val_lt hs)
    omega
  obtain ⟨N, hN⟩ : ∃ N, N = val l := ⟨_, rfl⟩
  have h := Lib.hid h
  rw [← hN] at hlv ⊢
  have HN := Lib.hid hN
  clear hN
  go_enter Tryz.func214, Tryz.ntmps214
  go_wp2_with fail
  refine (cutL_any v l w h.out hs).mono ?_
  rintro e w1 ⟨u, rfl, hu, rfl⟩
  rw [← HN.out] at hu
  rcases Nat.eq_zero_or_pos N with h0 | h0
  · subst h0
    obtain ⟨A, c, rfl, h1, h2, h3⟩ := id hu
    have hu := Lib.hid hu
    clear h3
    simp only [dg_zero, List.length_nil]
    go_wp2
    go_ret
    exact ⟨rfl, rfl⟩
  · have hl := dg_len_pos h0
    obtain ⟨g, o, c, L, rfl, h1, h2, hA, hL⟩ := hu.open_ (fun e => by rw [e] at hl; simp at hl)
    obtain ⟨x, hx, hx2⟩ := getElem?_last (l := dg N) (fun e => by rw [e] at hl; simp at hl)
    have hxs := getElem?_dg hx
    have hc : w.cell? ⟨g, o + ((dg N).length - 1), none⟩ = some (.int .u32 (x : Int)) := hA.cell (hL _ _ hx)
    have hb := bitLen_spec hxs (dg_last N x hx2)
    have HB : Hid (bitsN N = 32 * ((dg N).length - 1) + Go.Lib.bitLen x) := Lib.hid (by
      unfold bitsN
      rw [List.getLastD_eq_getLast?, hx2]; rfl)
    obtain ⟨K, hK⟩ : ∃ K, K = (dg N).length := ⟨_, rfl⟩
    rw [← hK] at hlv hl hc HB h1 ⊢
    have hk0 : ((K : Int) == 0) = false := by simp; omega
    have hbl : Go.Lib.bitLen x ≤ 32 := hb.2.1
    clear hu hx hx2 hK hb
    go_wp2_with fail
    refine (Tryz.bits_Len32 (x : Int) _ (by omega) (by omega)).mono ?_
    rintro e w1 ⟨rfl, rfl⟩
    rw [Int.toNat_natCast]
    obtain ⟨b, hb⟩ : ∃ b, b = Go.Lib.bitLen x := ⟨_, rfl⟩
    rw [← hb] at hbl HB ⊢
    clear hb
    go_wp2
    go_ret
    exact ⟨by rw [HB.out]; simp; omega, rfl⟩
open Go.RowKit
def natS (n : Nat) : ByteArray := ⟨((natL n).map UInt8.ofNat).toArray⟩
theorem sl_mk (l : List Nat) (h : ∀ x, x ∈ l → x < 256) : sl ⟨(l.map UInt8.ofNat).toArray⟩ = l := by
  simp only [sl, List.map_map]
  rw [List.map_congr_left (g := id) (fun x hx => by simp; exact h x hx)]
  simp
theorem natL_lt {n : Nat} : ∀ x, x ∈ natL n → x < 256 := fun x hx => nb_lt x (by simpa [natL] using hx)
theorem sl_natS (n : Nat) : sl (natS n) = natL n := sl_mk _ natL_lt
theorem natS_size (n : Nat) : (natS n).size = (nb n).length := by rw [← sl_len, sl_natS, natL_len]
theorem be_natS (n : Nat) : be (sl (natS n)) = n := by rw [sl_natS, be_natL]
theorem mayB_natS {n : Nat} (h : (nb n).length ≤ 16384) : mayB (natS n) = true := by
  have h1 := natL_head (n := n)
  simp [mayB, natS_size, sl_natS, h, h1]
theorem sl_inj {s t : ByteArray} (h : sl s = sl t) : s = t := by
  have h1 : s.data.toList = t.data.toList := by
    have := congrArg (List.map UInt8.ofNat) h
    simpa [sl, Function.comp_def] using this
  cases s; cases t
  congr 1
  exact Array.toList_inj.1 h1
theorem natS_be {s : ByteArray} (h : mayB s = true) : natS (be (sl s)) = s := by
  apply sl_inj
  rw [sl_natS]
  refine natL_be (sl_lt s) ?_
  simp [mayB] at h
  exact h.2
theorem info_u8 : (Tryz.prog.info? 5).map (fun i => (i.zero, i.size, i.bytes)) = some (some (.int .u8 0), 1, 1) := by kernel_rfl
theorem make_u8 (n : Nat) (hn : n ≤ 4294967296) (w : World) :
    (Instr.makeSlice 118 (.int .i64 (n : Int)) (.int .i64 (n : Int))).run Tryz.prog w = .ok (.slice (some ⟨w.heap.size, 0, none⟩) n n) (w.alloc (.cells (ivs .u8 (List.replicate n 0)).toArray 5)) := by
  obtain ⟨i, hi, hz0, hz1, hz2⟩ := info_parts info_u8
  have h1 : (i.bytes : Int) * (n : Int) ≤ 281474976710656 := by rw [hz2]; omega
  have hr := run_make (P := Tryz.prog) w 118 5 i _ Tryz.underlying118 hi hz0 .i64 .i64 n n (by omega) (Int.le_refl _) h1 (by omega)
  simp only [Int.toNat_natCast, hz1, Nat.mul_one] at hr
  rw [hr, show (Value.int IntKind.u8 0).cells = #[Value.int IntKind.u8 0] from rfl, made_zeros]
theorem conv_str (w : World) (g : Nat) (L : List Nat) (c : Nat) (hA : Arr w g .u8 5 L) (hL : ∀ x, x ∈ L → x < 256) (T : TypeId) (hT : Tryz.prog.underlying T = some .string) :
    (convert 118 T (.slice (some ⟨g, 0, none⟩) L.length c)).run Tryz.prog w = .ok (.string ⟨(L.map UInt8.ofNat).toArray⟩) w := by
  have h := run_convert_bytes_back (P := Tryz.prog) w 118 T 5 ⟨g, 0, none⟩ c (L.map UInt8.ofNat) Tryz.underlying118 Tryz.underlying5 hT (fun j hj => by
    have hj' : j < L.length := by simpa using hj
    have hx : L[j]? = some L[j] := List.getElem?_eq_getElem hj'
    have e : ((L.map UInt8.ofNat)[j].toNat : Int) = (L[j] : Int) := by
      rw [List.getElem_map]
      have := hL L[j] (List.getElem_mem hj')
      simp
      omega
    rw [e]
    have hc := hA.cell hx
    unfold Addr.add
    split
    · rename_i h0; subst h0; exact hc
    · simpa using hc)
  simpa using h
theorem byte_of (V q r : Nat) (hr : r < 4) : V / 4294967296 ^ q % 4294967296 / 2 ^ (8 * r) % 256 = V / 256 ^ (4 * q + r) % 256 := by
  have e : (256 : Nat) ^ (4 * q + r) = 4294967296 ^ q * 2 ^ (8 * r) := by
    rw [show (256 : Nat) = 2 ^ 8 from rfl, show (4294967296 : Nat) = 2 ^ 32 from rfl, ← Nat.pow_mul, ← Nat.pow_mul, ← Nat.pow_add]
    congr 1; omega
  rw [e, ← Nat.div_div_eq_div_mul]
  generalize V / 4294967296 ^ q = Y
  have e2 : (4294967296 : Nat) = 2 ^ (8 * r) * 2 ^ (32 - 8 * r) := by rw [← Nat.pow_add, show 8 * r + (32 - 8 * r) = 32 by omega]
  have e3 : 2 ^ (32 - 8 * r) = 256 * 2 ^ (24 - 8 * r) := by rw [show (256 : Nat) = 2 ^ 8 from rfl, ← Nat.pow_add, show 8 + (24 - 8 * r) = 32 - 8 * r by omega]
  rw [e2, Nat.mod_mul_right_div_self, e3, Nat.mod_mul_right_mod]
theorem nb_len_le (n : Nat) : (nb n).length ≤ 4 * (dg n).length := by
  rcases Nat.eq_zero_or_pos n with h | h
  · subst h; simp [nb_zero]
  · have h1 := (nb_bounds h).1
    have h2 := dg_lt n
    rcases Nat.lt_or_ge (4 * (dg n).length) (nb n).length with h3 | h3
    · exfalso
      have e : (4294967296 : Nat) ^ (dg n).length = 256 ^ (4 * (dg n).length) := by rw [show (4294967296 : Nat) = 256 ^ 4 from rfl, ← Nat.pow_mul]
      rw [e] at h2
      have : 256 ^ (4 * (dg n).length) ≤ 256 ^ ((nb n).length - 1) := Nat.pow_le_pow_right (by omega) (by omega)
      omega
    · exact h3
theorem natL_of {N : Nat} {O : List Nat} (hl : O.length = (nb N).length) (h : ∀ t, t < (nb N).length → O[(nb N).length - 1 - t]? = some (N / 256 ^ t % 256)) : O = natL N := by
  apply List.ext_getElem?
  intro j
  by_cases hj : j < (nb N).length
  · have h1 := h ((nb N).length - 1 - j) (by omega)
    rw [show (nb N).length - 1 - ((nb N).length - 1 - j) = j by omega] at h1
    rw [h1]
    unfold natL
    rw [List.getElem?_reverse hj, nb_get (by omega)]
  · rw [List.getElem?_eq_none (by omega), List.getElem?_eq_none (by rw [natL_len]; omega)]
def RetShut (n : Nat) (w : World) (e : Ending) (w' : World) : Prop := e = .returned (.tuple #[.string (natS n), .int .i64 0]) ∧ Below w.heap.size w w'
set_option maxRecDepth 100000 in
set_option maxHeartbeats 400000 in
theorem shut_any (v : Value) (l : List Nat) (w : World) (h : Rd .u32 243 w v l) (hs : Sm l) (hlen : l.length ≤ 1073741824) (hnb : (nb (val l)).length ≤ 16384) :
    Calls Tryz.prog 195 #[v] w (RetShut (val l) w) := by
  obtain ⟨A, c, rfl, h1, h2, h3⟩ := id h
  have h := Lib.hid h
  have h3 := Lib.hid h3
  obtain ⟨K, hK⟩ : ∃ K, K = l.length := ⟨_, rfl⟩
  have hbn := nb_len_bitsN (val l)
  have hdl : (nb (val l)).length ≤ 4 * K := by
    have e1 := nb_len_le (val l)
    have e2 := dg_len_le_of_lt (val_lt hs)
    omega
  rw [← hK] at h1 ⊢
  have HK := Lib.hid hK
  obtain ⟨N, hN⟩ : ∃ N, N = val l := ⟨_, rfl⟩
  rw [← hN] at hnb hbn hdl ⊢
  have HN := Lib.hid hN
  obtain ⟨B, hB⟩ : ∃ B, B = bitsN N := ⟨_, rfl⟩
  have HB := Lib.hid hB
  obtain ⟨L, hL⟩ : ∃ L, L = (nb N).length := ⟨_, rfl⟩
  rw [← hL] at hnb hbn hdl
  rw [← hB] at hbn
  have hLi : ((B : Int) + 7) / 8 = (L : Int) := by omega
  have hBs : B ≤ 200000 := by omega
  have HL := Lib.hid hL
  have hmk := make_u8 L (by omega)
  clear hN hB hL hbn hK
  go_enter Tryz.func195, Tryz.ntmps195
  go_wp2_with fail
  refine (lenL_any _ l w (by have := h.out; rw [← HK.out] at this; exact this) hs hlen).mono ?_
  rintro e w1 ⟨rfl, rfl⟩
  rw [← HN.out, ← HB.out]
  go_wp2
  have hA0 := Arr.new w .u8 5 (List.replicate L 0)
  have hB0 : Below w.heap.size w (w.alloc (.cells (ivs .u8 (List.replicate L 0)).toArray 5)) := (Below.refl _ _).alloc (Nat.le_refl _) _
  generalize hw0 : w.alloc (.cells (ivs .u8 (List.replicate L 0)).toArray 5) = w0 at hA0 hB0 ⊢
  generalize hg : w.heap.size = g at *
  have HG := Lib.hid hg
  clear hw0 hg hmk
  go_loopw [16] (fun i wr => ∃ (k : Nat) (O : List Nat), i = .int .i64 (k : Int) ∧ k ≤ L ∧ O.length = L ∧ (∀ x, x ∈ O → x < 256) ∧ (∀ t, t < k → O[L - 1 - t]? = some (N / 256 ^ t % 256)) ∧ Arr wr g .u8 5 O ∧ Below g w wr) (fun i _ => L - (intOf i).toNat)
  case atStart => exact ⟨0, _, rfl, Nat.zero_le _, by simp, fun x hx => by rw [List.eq_of_mem_replicate hx]; omega, fun t ht => absurd ht (by omega), hA0, hB0⟩
  case round =>
    obtain ⟨i, O, rfl, hi, hO, hOs, hOv, hA, hB⟩ := hrel
    have hO := Lib.hid hO
    have hOs := Lib.hid hOs
    have hOv := Lib.hid hOv
    by_cases h0 : i < L
    · obtain ⟨q, hq⟩ : ∃ q, q = i / 4 := ⟨_, rfl⟩
      have hqi : (i : Int) / 4 = (q : Int) := by omega
      obtain ⟨sh, hsh⟩ : ∃ sh, sh = 8 * (i % 4) := ⟨_, rfl⟩
      have hshi : 8 * ((i : Int) % 4) = (sh : Int) := by omega
      have hsh32 : sh < 32 := by omega
      have hqK : q < K := by omega
      obtain ⟨x, hx⟩ : ∃ x, l[q]? = some x := ⟨_, List.getElem?_eq_getElem (by rw [← HK.out]; exact hqK)⟩
      have hxs : x < 4294967296 := hs.get hx
      have hxv := digit_val hs hx
      obtain ⟨ga, oa, ca, La, ea, -, -, hAa, hLa⟩ := h.out.open_ (fun e => by have := HK.out; rw [e] at this; simp at this; omega)
      injection ea with ea1 _ ea2
      subst ea1 ea2
      have hcx : wr.cell? ⟨ga, oa + q, none⟩ = some (.int .u32 (x : Int)) := (hB.cell (by have := hAa.lt; rw [HG.out] at this; exact this)).trans (hAa.cell (hLa _ _ hx))
      obtain ⟨k, hk⟩ : ∃ k, k = L - 1 - i := ⟨_, rfl⟩
      have hki : (L : Int) - 1 - (i : Int) = (k : Int) := by omega
      have hkL : k < L := by omega
      obtain ⟨y, hy⟩ : ∃ y, O[k]? = some y := ⟨_, List.getElem?_eq_getElem (by rw [hO.out]; exact hkL)⟩
      have hcy : wr.cell? ⟨g, k, none⟩ = some (.int .u8 (y : Int)) := hA.cell hy
      have hfy : wr.frozen? ⟨g, k, none⟩ = false := hA.frozen _
      obtain ⟨z, hz⟩ : ∃ z, z = x / 2 ^ sh := ⟨_, rfl⟩
      have hzi : (x : Int) / 2 ^ sh = (z : Int) := by rw [hz]; push_cast; rfl
      have hzs : z < 4294967296 := by rw [hz]; exact Nat.lt_of_le_of_lt (Nat.div_le_self _ _) hxs
      obtain ⟨b, hb⟩ : ∃ b, b = z % 256 := ⟨_, rfl⟩
      have hbi : (z : Int) % 256 = (b : Int) := by rw [hb]; rfl
      have hbs : b < 256 := by omega
      have hbv : b = N / 256 ^ i % 256 := by
        rw [hb, hz, hxv, hsh, byte_of _ _ _ (by omega), ← HN.out, hq, show 4 * (i / 4) + i % 4 = i by omega]
      have HV2 : Hid (∀ t, t < i + 1 → (O.set k b)[L - 1 - t]? = some (N / 256 ^ t % 256)) := Lib.hid (fun t ht => by
        by_cases hti : t = i
        · subst hti
          rw [← hk, List.getElem?_set_self (by rw [hO.out]; exact hkL), hbv]
        · rw [List.getElem?_set_ne (by omega)]
          exact hOv.out t (by omega))
      have HS2 : Hid (∀ x, x ∈ O.set k b → x < 256) := Lib.hid (fun x hx => by
        rcases List.mem_or_eq_of_mem_set hx with h1 | h1
        · exact hOs.out x h1
        · rw [h1]; exact hbs)
      clear hx hq hsh hy hz hb hk hxv hbv
      go_wp2
      go_roundw
      case rel => exact ⟨i + 1, O.set k b, by go_num, by omega, by rw [List.length_set]; exact hO.out, HS2.out, HV2.out, hA.set_ _ _, hB.setCell (Nat.le_refl _) _⟩
      case measure => simp [intOf]; omega
    · obtain rfl : i = L := by omega
      have HO : Hid (O = natL N) := Lib.hid (natL_of (by rw [hO.out, HL.out]) (fun t ht => by rw [← HL.out] at ht ⊢; exact hOv.out t ht))
      have hcv := conv_str wr g O i hA hOs.out 24 Tryz.underlying24
      rw [hO.out] at hcv
      have HS : Hid (natS N = ⟨(O.map UInt8.ofNat).toArray⟩) := Lib.hid (by rw [HO.out]; rfl)
      go_wp2
      go_ret2
      exact ⟨by rw [HS.out]; rfl, by rw [HG.out]; exact hB⟩
set_option maxHeartbeats 400000 in
theorem natOf_any (n : Nat) (w : World) (hn : n < 18446744073709551616) :
    Calls Tryz.prog 156 #[.int .u64 (n : Int)] w fun e w' => e = .returned (.string (natS n)) ∧ Below w.heap.size w w' := by
  have hl8 : (nb n).length ≤ 8 := by
    rcases Nat.eq_zero_or_pos n with h | h
    · subst h; simp [nb_zero]
    · have h1 := (nb_bounds h).1
      rcases Nat.lt_or_ge 8 (nb n).length with h3 | h3
      · have : 256 ^ 8 ≤ 256 ^ ((nb n).length - 1) := Nat.pow_le_pow_right (by omega) (by omega)
        omega
      · exact h3
  have hl8 := Lib.hid hl8
  go_enter Tryz.func156, Tryz.ntmps156
  go_wp2_with fail
  have hA : Arr (w.alloc (.cells #[.int .u32 ((n : Int) % 4294967296), .int .u32 ((n : Int) / 4294967296)] 243)) w.heap.size .u32 243 [n % 4294967296, n / 4294967296] := Arr.new w .u32 243 [n % 4294967296, n / 4294967296]
  have hR := Lib.hid (Rd.whole hA (by simp [maxLen]))
  clear hA
  refine (shut_any _ _ _ hR.out (sm_two hn) (by simp) (by rw [two_digits]; exact Nat.le_trans hl8.out (by omega))).mono ?_
  rintro e w1 ⟨rfl, hb⟩
  rw [two_digits]
  have hb := Lib.hid hb
  go_wp2
  go_ret
  exact ⟨rfl, ((Below.refl _ _).alloc (Nat.le_refl _) _).trans (hb.out.mono (by simp))⟩
open Go.RowKit
theorem mayAll_one (s : ByteArray) : mayAll [s] = mayB s := by simp [mayAll]
theorem may_one (s : ByteArray) (w : World) (T : TypeId) (hs : s.size ≤ 9223372036854775807) :
    Calls Tryz.prog 162 #[.slice (some ⟨w.heap.size, 0, none⟩) 1 1] (w.alloc (.cells #[.string s] T)) fun e w' => e = .returned (.bool (mayB s)) ∧ w.alloc (.cells #[.string s] T) = w' := by
  have h := may_any w.heap.size [s] (w.alloc (.cells #[.string s] T)) (by simp) (fun i t hi => by
    cases i with
    | zero => simp at hi; subst hi; rw [cell_of_row _ _ 0 _ _ _ (heap_alloc_new w _)]; rfl
    | succ i => simp at hi) (fun t ht => by simp at ht; subst ht; exact hs)
  rw [mayAll_one] at h
  exact h
def RetVal (v : Value) (w : World) (e : Ending) (w' : World) : Prop := e = .returned v ∧ Below w.heap.size w w'
set_option maxHeartbeats 400000 in
theorem natCheck_any (s : ByteArray) (w : World) (hs : s.size ≤ 9223372036854775807) :
    Calls Tryz.prog 125 #[.string s] w (RetVal (.int .i64 (if mayB s then 0 else 2)) w) := by
  cases hb : mayB s
  · have hb := Lib.hid hb
    go_enter Tryz.func125, Tryz.ntmps125
    go_wp2_with fail
    refine (may_one s w _ hs).mono ?_
    rintro e w1 ⟨rfl, rfl⟩
    rw [hb.out]
    go_wp2
    go_ret
    exact ⟨rfl, (Below.refl _ _).alloc (Nat.le_refl _) _⟩
  · have hb := Lib.hid hb
    go_enter Tryz.func125, Tryz.ntmps125
    go_wp2_with fail
    refine (may_one s w _ hs).mono ?_
    rintro e w1 ⟨rfl, rfl⟩
    rw [hb.out]
    go_wp2
    go_ret
    exact ⟨rfl, (Below.refl _ _).alloc (Nat.le_refl _) _⟩
def atN (l : List Nat) (i : Nat) : Nat := l.getD i 0
theorem at_any (v : Value) (l : List Nat) (i : Nat) (w : World) (h : Rd .u32 243 w v l) :
    Calls Tryz.prog 171 #[v, .int .i64 (i : Int)] w fun e w' => e = .returned (.int .u32 ((atN l i : Nat) : Int)) ∧ w = w' := by
  obtain ⟨A, c, rfl, h1, h2, h3⟩ := id h
  have h := Lib.hid h
  have h3 := Lib.hid h3
  obtain ⟨K, hK⟩ : ∃ K, K = l.length := ⟨_, rfl⟩
  rw [← hK] at h1 ⊢
  have HK := Lib.hid hK
  clear hK
  by_cases h0 : i < K
  · obtain ⟨x, hx⟩ : ∃ x, l[i]? = some x := ⟨_, List.getElem?_eq_getElem (by rw [← HK.out]; exact h0)⟩
    obtain ⟨ga, oa, ca, La, ea, -, -, hAa, hLa⟩ := h.out.open_ (fun e => by have := HK.out; rw [e] at this; simp at this; omega)
    injection ea with ea1 _ ea2
    subst ea1 ea2
    have hcx : w.cell? ⟨ga, oa + i, none⟩ = some (.int .u32 (x : Int)) := hAa.cell (hLa _ _ hx)
    have hD : Hid (atN l i = x) := Lib.hid (by unfold atN; rw [List.getD_eq_getElem?_getD, hx]; rfl)
    clear hx
    go_enter Tryz.func171, Tryz.ntmps171
    go_wp2
    go_ret
    exact ⟨by rw [hD.out]; rfl, rfl⟩
  · have hD : Hid (atN l i = 0) := Lib.hid (by unfold atN; rw [List.getD_eq_getElem?_getD, List.getElem?_eq_none (by rw [← HK.out]; omega)]; rfl)
    go_enter Tryz.func171, Tryz.ntmps171
    go_wp2
    go_ret
    exact ⟨by rw [hD.out]; rfl, rfl⟩
theorem make_limbs (n : Nat) (hn : n ≤ 4294967296) (w : World) :
    (Instr.makeSlice 241 (.int .i64 (n : Int)) (.int .i64 (n : Int))).run Tryz.prog w = .ok (.slice (some ⟨w.heap.size, 0, none⟩) n n) (w.alloc (.cells (ivs .u32 (List.replicate n 0)).toArray 243)) := by
  obtain ⟨i, hi, hz0, hz1, hz2⟩ := info_parts info_u32
  have h1 : (i.bytes : Int) * (n : Int) ≤ 281474976710656 := by rw [hz2]; omega
  have hr := run_make (P := Tryz.prog) w 241 243 i _ Tryz.underlying241 hi hz0 .i64 .i64 n n (by omega) (Int.le_refl _) h1 (by omega)
  simp only [Int.toNat_natCast, hz1, Nat.mul_one] at hr
  rw [hr, show (Value.int IntKind.u32 0).cells = #[Value.int IntKind.u32 0] from rfl, made_zeros]
theorem byte_above {D : List Nat} (hD : Sm D) {k c y : Nat} (hv : val D < 256 ^ k) (hc : c < 256) (hy : D[k / 4]? = some y) :
    c * 2 ^ (8 * (k % 4)) < 4294967296 ∧ (y ||| c * 2 ^ (8 * (k % 4))) = y + c * 2 ^ (8 * (k % 4)) ∧ y + c * 2 ^ (8 * (k % 4)) < 4294967296 ∧
      val (D.set (k / 4) (y + c * 2 ^ (8 * (k % 4)))) = val D + c * 256 ^ k := by
  have eB : (4294967296 : Nat) = 2 ^ 32 := rfl
  have e256 : (256 : Nat) = 2 ^ 8 := rfl
  obtain ⟨q, hq⟩ : ∃ q, q = k / 4 := ⟨_, rfl⟩
  obtain ⟨r, hr⟩ : ∃ r, r = k % 4 := ⟨_, rfl⟩
  have hk : k = 4 * q + r := by omega
  have hr4 : r < 4 := by omega
  rw [← hq] at hy ⊢
  rw [← hr]
  have hyd := digit_val hD hy
  have hpow : 256 ^ k = 2 ^ (8 * r) * 4294967296 ^ q := by
    rw [hk, e256, eB, ← Nat.pow_mul, ← Nat.pow_mul, ← Nat.pow_add]
    congr 1
    omega
  have hylt : y < 2 ^ (8 * r) := by
    have h1 : val D / 4294967296 ^ q < 2 ^ (8 * r) := by
      rw [Nat.div_lt_iff_lt_mul (Nat.pow_pos (by omega)), ← hpow]; exact hv
    rw [hyd]
    exact Nat.lt_of_le_of_lt (Nat.mod_le _ _) h1
  have hle : (c + 1) * 2 ^ (8 * r) ≤ 4294967296 := by
    have h1 : (c + 1) * 2 ^ (8 * r) ≤ 2 ^ 8 * 2 ^ (8 * r) := Nat.mul_le_mul_right _ (by rw [← e256]; exact hc)
    rw [← Nat.pow_add] at h1
    have h2 : 2 ^ (8 + 8 * r) ≤ 2 ^ 32 := Nat.pow_le_pow_right (by omega) (by omega)
    omega
  rw [Nat.add_mul, Nat.one_mul] at hle
  refine ⟨by have := Nat.two_pow_pos (8 * r); omega, ?_, by omega, ?_⟩
  · have := Nat.two_pow_add_eq_or_of_lt hylt c
    rw [Nat.mul_comm c, Nat.or_comm, ← this, Nat.add_comm]
  · have e := val_set (y + c * 2 ^ (8 * r)) hy
    rw [Nat.mul_add] at e
    have e3 : 4294967296 ^ q * (c * 2 ^ (8 * r)) = c * 256 ^ k := by rw [hpow]; ac_rfl
    omega
theorem be_drop {l : List Nat} {n k x : Nat} (hn : n = l.length) (hk : k < n) (hx : l[n - 1 - k]? = some x) : be (l.drop (n - (k + 1))) = be (l.drop (n - k)) + x * 256 ^ k := by
  have hlt := lt_of_getElem? hx
  have e : l[n - 1 - k] = x := by rw [List.getElem?_eq_getElem hlt] at hx; exact Option.some.inj hx
  rw [show n - (k + 1) = n - 1 - k by omega, List.drop_eq_getElem_cons hlt, e, show n - 1 - k + 1 = n - k by omega]
  have := be_append [x] (l.drop (n - k))
  rw [List.singleton_append] at this
  rw [this, List.length_drop, ← hn, show n - (n - k) = k by omega]
  have : be [x] = x := by simp [be]
  rw [this]
  omega
def RetOpen (s : ByteArray) (w : World) (e : Ending) (w' : World) : Prop := ∃ v l, e = .returned v ∧ Rd .u32 243 w' v l ∧ Sm l ∧ val l = be (sl s) ∧ l.length = (s.size + 3) / 4 ∧ Below w.heap.size w w'
set_option maxRecDepth 100000 in
set_option maxHeartbeats 400000 in
theorem open_any (s : ByteArray) (w : World) (hs : s.size ≤ 1073741824) : Calls Tryz.prog 170 #[.string s] w (RetOpen s w) := by
  obtain ⟨n, hn⟩ : ∃ n, n = s.size := ⟨_, rfl⟩
  obtain ⟨m, hm⟩ : ∃ m, m = (n + 3) / 4 := ⟨_, rfl⟩
  have hmi : ((n : Int) + 3) / 4 = (m : Int) := by omega
  have hsz : (s.size : Int) = (n : Int) := by rw [hn]
  have hmk := make_limbs m (by omega)
  rw [← hn] at hs
  have Hn := Lib.hid hn
  have Hm := Lib.hid hm
  clear hn hm
  go_enter Tryz.func170, Tryz.ntmps170
  go_wp2
  have hA0 := Arr.new w .u32 243 (List.replicate m 0)
  have hB0 : Below w.heap.size w (w.alloc (.cells (ivs .u32 (List.replicate m 0)).toArray 243)) := (Below.refl _ _).alloc (Nat.le_refl _) _
  generalize hw0 : w.alloc (.cells (ivs .u32 (List.replicate m 0)).toArray 243) = w0 at hA0 hB0 ⊢
  generalize hg : w.heap.size = g at *
  have HG := Lib.hid hg
  clear hw0 hg hmk
  go_loopw [13] (fun i wr => ∃ (k : Nat) (D : List Nat), i = .int .i64 (k : Int) ∧ k ≤ n ∧ D.length = m ∧ Sm D ∧ val D = be ((sl s).drop (n - k)) ∧ Arr wr g .u32 243 D ∧ Below g w wr) (fun i _ => n - (intOf i).toNat)
  case atStart => exact ⟨0, _, rfl, Nat.zero_le _, by simp, sm_replicate _, by rw [val_replicate, Hn.out, ← sl_len, Nat.sub_zero, List.drop_length]; rfl, hA0, hB0⟩
  case round =>
    obtain ⟨i, D, rfl, hi, hD, hS, hV, hA, hB⟩ := hrel
    have hV := Lib.hid hV
    have hD := Lib.hid hD
    by_cases h0 : i < n
    · obtain ⟨k, hk⟩ : ∃ k, k = n - 1 - i := ⟨_, rfl⟩
      have hki : (n : Int) - 1 - (i : Int) = (k : Int) := by omega
      have hks : k < s.size := by rw [← Hn.out]; omega
      obtain ⟨x, hxe⟩ : ∃ x, x = s[k].toNat := ⟨_, rfl⟩
      have hx : (sl s)[k]? = some x := by rw [hxe]; exact sl_get s k hks
      have hxs : x < 256 := sl_lt s x (List.mem_of_getElem? hx)
      have hxi : (s[k].toNat : Int) = (x : Int) := by rw [hxe]
      obtain ⟨q, hq⟩ : ∃ q, q = i / 4 := ⟨_, rfl⟩
      have hqi : (i : Int) / 4 = (q : Int) := by omega
      have hqm : q < m := by have := Hm.out; omega
      obtain ⟨sh, hsh⟩ : ∃ sh, sh = 8 * (i % 4) := ⟨_, rfl⟩
      have hshi : 8 * ((i : Int) % 4) = (sh : Int) := by omega
      have hsh32 : sh < 32 := by omega
      obtain ⟨y, hy⟩ : ∃ y, D[q]? = some y := ⟨_, List.getElem?_eq_getElem (by rw [hD.out]; exact hqm)⟩
      have hys := hS.get hy
      have hvl : val D < 256 ^ i := by
        rw [hV.out]
        have := be_lt (l := (sl s).drop (n - i)) (fun z hz => sl_lt s z (List.mem_of_mem_drop hz))
        rwa [List.length_drop, sl_len, ← Hn.out, show n - (n - i) = i by omega] at this
      have hb := byte_above (k := i) (c := x) hS hvl hxs (by rw [← hq]; exact hy)
      rw [← hq, ← hsh] at hb
      obtain ⟨C, hC⟩ : ∃ C, C = x * 2 ^ sh := ⟨_, rfl⟩
      rw [← hC] at hb
      have hCi : (x : Int) * 2 ^ sh = (C : Int) := by rw [hC]; push_cast; rfl
      have hCs : C < 4294967296 := hb.1
      obtain ⟨R, hR⟩ : ∃ R, R = y + C := ⟨_, rfl⟩
      rw [← hR] at hb
      have hor : bits .or .u32 (y : Int) (C : Int) = (R : Int) := by rw [or32_nat y C hys hCs, hb.2.1]
      have hRs : R < 4294967296 := hb.2.2.1
      have hcy : wr.cell? ⟨g, q, none⟩ = some (.int .u32 (y : Int)) := hA.cell hy
      have hfy : wr.frozen? ⟨g, q, none⟩ = false := hA.frozen _
      have HV2 : Hid (val (D.set q R) = be ((sl s).drop (n - (i + 1)))) := Lib.hid (by
        rw [hb.2.2.2, hV.out]
        exact (be_drop (by rw [sl_len]; exact Hn.out) h0 (by rw [← hk]; exact hx)).symm)
      clear hx hk hq hsh hy hb hC hR hxe hvl
      go_wp2
      go_region
      go_wp2
      go_roundw
      case rel => exact ⟨i + 1, D.set q R, by go_num, by omega, by rw [List.length_set]; exact hD.out, hS.set_ hRs, HV2.out, (hA.set_ _ _).drew, (hB.setCell (Nat.le_refl _) _).drew⟩
      case measure => simp [intOf]; omega
    · obtain rfl : i = n := by omega
      have HV2 : Hid (val D = be (sl s)) := Lib.hid (by rw [hV.out, Nat.sub_self]; rfl)
      have hR : Rd .u32 243 wr (.slice (some ⟨g, 0, none⟩) m m) D := by
        have := Rd.whole hA (by rw [hD.out]; unfold maxLen; omega)
        rwa [hD.out] at this
      have hR := Lib.hid hR
      go_wp2
      go_ret
      exact ⟨.slice (some ⟨g, 0, none⟩) m m, D, rfl, hR.out, hS, HV2.out, by rw [hD.out, Hm.out, Hn.out], by rw [HG.out]; exact hB⟩
def smallB (s : ByteArray) : Bool := mayB s && decide (s.size ≤ 8)
def RetSmall (s : ByteArray) (w : World) (e : Ending) (w' : World) : Prop :=
  e = .returned (.tuple #[.int .u64 ((if smallB s then be (sl s) else 0 : Nat) : Int), .bool (smallB s)]) ∧ Below w.heap.size w w'
theorem two_of_val {l : List Nat} (h : l.length ≤ 2) : atN l 1 * 4294967296 + atN l 0 = val l := by
  match l, h with
  | [], _ => rfl
  | [x], _ => simp [atN, val]
  | [x, y], _ => simp [atN, val]; omega
theorem atN_lt {l : List Nat} (h : Sm l) (i : Nat) : atN l i < 4294967296 := by
  unfold atN
  rw [List.getD_eq_getElem?_getD]
  cases hx : l[i]? with
  | none => simp
  | some x => exact h.get hx
set_option maxRecDepth 100000 in
set_option maxHeartbeats 400000 in
theorem natSmall_any (s : ByteArray) (w : World) (hs : s.size ≤ 9223372036854775807) : Calls Tryz.prog 133 #[.string s] w (RetSmall s w) := by
  cases hb : mayB s
  · have hsm : smallB s = false := by simp [smallB, hb]
    have hsm := Lib.hid hsm
    have hb := Lib.hid hb
    go_enter Tryz.func133, Tryz.ntmps133
    go_wp2_with fail
    refine (may_one s w _ hs).mono ?_
    rintro e w1 ⟨rfl, rfl⟩
    rw [hb.out]
    go_wp2
    go_ret2
    exact ⟨by rw [hsm.out]; rfl, (Below.refl _ _).alloc (Nat.le_refl _) _⟩
  · have hb' := Lib.hid hb
    by_cases h8 : s.size ≤ 8
    · have hsm : smallB s = true := by simp [smallB, hb, h8]
      have hsm := Lib.hid hsm
      have h8i : ¬ (8 : Int) < (s.size : Int) := by omega
      clear hb
      go_enter Tryz.func133, Tryz.ntmps133
      go_wp2_with fail
      refine (may_one s w _ hs).mono ?_
      rintro e w1 ⟨rfl, rfl⟩
      rw [hb'.out]
      go_wp2_with fail
      refine (open_any s _ (by omega)).mono ?_
      rintro e w2 ⟨v, l, rfl, hv, hS, hl, hlen, hB⟩
      have hl2 : l.length ≤ 2 := by omega
      have h2 := two_of_val hl2
      have HV : Hid (atN l 1 * 4294967296 + atN l 0 = be (sl s)) := Lib.hid (h2.trans hl)
      have a0 := atN_lt hS 0
      have a1 := atN_lt hS 1
      have hor := or64_lo (atN l 1) (atN l 0) a1 a0
      rw [h2, hl] at hor
      have hv := Lib.hid hv
      have hB := Lib.hid hB
      clear h2 hl hlen hl2
      go_wp2_with fail
      refine (at_any v l 0 w2 hv.out).mono ?_
      rintro e w3 ⟨rfl, rfl⟩
      go_wp2_with fail
      refine (at_any v l 1 w2 hv.out).mono ?_
      rintro e w3 ⟨rfl, rfl⟩
      go_wp2
      go_ret2
      exact ⟨by rw [hsm.out]; rfl, ((Below.refl _ _).alloc (Nat.le_refl _) _).trans (hB.out.mono (by simp))⟩
    · have hsm : smallB s = false := by simp [smallB, h8]
      have hsm := Lib.hid hsm
      have h8i : (8 : Int) < (s.size : Int) := by omega
      clear hb
      go_enter Tryz.func133, Tryz.ntmps133
      go_wp2_with fail
      refine (may_one s w _ hs).mono ?_
      rintro e w1 ⟨rfl, rfl⟩
      rw [hb'.out]
      go_wp2
      go_ret2
      exact ⟨by rw [hsm.out]; rfl, (Below.refl _ _).alloc (Nat.le_refl _) _⟩
end Go.Proofs.YtoaggmegmgdgbaaGreat
