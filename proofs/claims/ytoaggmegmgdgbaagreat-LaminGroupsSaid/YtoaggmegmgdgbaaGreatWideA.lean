import Derived.Test.YtoaggmegmgdgbaaGreatRows
import Derived.Test.YtoaggmegmgdgbaaGreatMem
namespace Go.Proofs.YtoaggmegmgdgbaaGreat
open Go.RowKit
theorem dg_of_take {l : List Nat} {n : Nat} (h : Sm l) (hn : n ≤ l.length) (hv : val (l.take n) = val l) (hx : 0 < n → ∃ x, l[n - 1]? = some x ∧ 0 < x) : dg (val l) = l.take n := by
  rw [← hv]
  refine dg_of_last (h.take n) fun x hx' => ?_
  rw [List.getLast?_eq_getElem?, List.length_take, Nat.min_eq_left hn] at hx'
  by_cases h0 : 0 < n
  · obtain ⟨y, hy, hpos⟩ := hx h0
    rw [List.getElem?_take, if_pos (by omega), hy] at hx'
    have := Option.some.inj hx'
    omega
  · have : n = 0 := by omega
    subst this
    simp at hx'
set_option maxHeartbeats 400000 in
theorem cut_any (v : Value) (l : List Nat) (w : World) (h : Rd .u32 243 w v l) (hs : Sm l) :
    Calls Tryz.prog 197 #[v] w (RetDgS (val l) w) := by
  by_cases hn : l = []
  · subst hn
    obtain ⟨A, c, rfl, h1, h2, h3⟩ := id h
    have h := Lib.hid h
    simp only [List.length_nil]
    go_enter Tryz.func197, Tryz.ntmps197
    go_wp2
    refine wp_loop_rounds 1 ?_
    rw [rounds_succ]
    go_wp2
    go_ret
    exact ⟨_, rfl, h.out, rfl⟩
  · obtain ⟨g, off, c, L, rfl, h1, h2, hA, hL⟩ := h.open_ hn
    have hm : l.length ≤ 9223372036854775807 := Nat.le_trans h1 (by unfold maxLen at h2; exact h2)
    clear h
    go_enter Tryz.func197, Tryz.ntmps197
    go_wp2
    go_loop [0] (fun s => ∃ n : Nat, s = .slice (some ⟨g, off, none⟩) n c ∧ n ≤ l.length ∧ val (l.take n) = val l) lenV
    case atStart => exact ⟨l.length, rfl, Nat.le_refl _, by simp⟩
    case round =>
      obtain ⟨n, rfl, hn1, hv⟩ := hrel
      have HV := Lib.hid hv
      clear hv
      by_cases h0 : 0 < n
      · obtain ⟨x, hx⟩ : ∃ x, l[n - 1]? = some x := ⟨_, List.getElem?_eq_getElem (by omega)⟩
        have hc : w.cell? ⟨g, off + (n - 1), none⟩ = some (.int .u32 (x : Int)) := hA.cell (hL _ _ hx)
        by_cases hz : x = 0
        · subst hz
          have hv2 : val (l.take (n - 1)) = val l := by
            have := val_take_succ hx
            rw [show n - 1 + 1 = n by omega, HV.out] at this
            omega
          have HV2 := Lib.hid hv2
          clear hx hv2
          go_wp2
          go_round
          case rel => exact ⟨n - 1, rfl, by omega, HV2.out⟩
          case measure => simp [lenV]; omega
        · have hx0 : ((x : Int) == 0) = false := by simpa using hz
          have HX := Lib.hid hx
          have hpos : 0 < x := by omega
          clear hx hz
          go_wp2
          go_ret
          refine ⟨.slice (some ⟨g, off, none⟩) n c, rfl, ?_, rfl⟩
          unfold Dg
          rw [dg_of_take hs hn1 HV.out (fun _ => ⟨x, HX.out, hpos⟩)]
          refine ⟨_, c, by rw [List.length_take, Nat.min_eq_left hn1], by rw [List.length_take]; omega, h2, fun _ => ⟨g, off, L, rfl, hA, fun j y hj => ?_⟩⟩
          rw [List.getElem?_take] at hj
          split at hj
          · exact hL _ _ hj
          · cases hj
      · obtain rfl : n = 0 := by omega
        go_wp2
        go_ret
        refine ⟨.slice (some ⟨g, off, none⟩) 0 c, rfl, ?_, rfl⟩
        unfold Dg
        rw [dg_of_take hs (Nat.zero_le _) HV.out (fun h => absurd h (by omega))]
        exact ⟨_, c, rfl, by simp, h2, fun h => absurd rfl h⟩
theorem cmpI_lt {a b : Nat} (h : a < b) : cmpI a b = -1 := by simp [cmpI, h]
theorem cmpI_gt {a b : Nat} (h : b < a) : cmpI a b = 1 := by rw [cmpI, if_neg (by omega), if_pos h]
theorem cmpI_eq {a b : Nat} (h : a = b) : cmpI a b = 0 := by subst h; simp [cmpI]
def RetCmp (a b : Nat) (w : World) (e : Ending) (w' : World) : Prop := e = .returned (.int .i64 (cmpI a b)) ∧ Dr w w'
set_option maxHeartbeats 400000 in
theorem cmp_any (va vb : Value) (a b : Nat) (w : World) (ha : Dg w va a) (hb : Dg w vb b) :
    Calls Tryz.prog 165 #[va, vb] w (RetCmp a b w) := by
  obtain ⟨A, ca, rfl, ha1, ha2, ha3⟩ := id ha
  obtain ⟨B, cb, rfl, hb1, hb2, hb3⟩ := id hb
  have hm : (dg a).length ≤ 9223372036854775807 := Nat.le_trans ha1 (by unfold maxLen at ha2; exact ha2)
  have hm2 : (dg b).length ≤ 9223372036854775807 := Nat.le_trans hb1 (by unfold maxLen at hb2; exact hb2)
  have ha := Lib.hid ha
  have hb := Lib.hid hb
  have ha3 := Lib.hid ha3
  have hb3 := Lib.hid hb3
  by_cases hne : (dg a).length = (dg b).length
  · by_cases h0 : (dg a).length = 0
    · have e1 : a = 0 := (dg_len_zero a).1 h0
      have e2 : b = 0 := (dg_len_zero b).1 (hne ▸ h0)
      subst e1 e2
      clear hne h0
      simp only [dg_zero, List.length_nil]
      go_enter Tryz.func165, Tryz.ntmps165
      go_wp2
      refine wp_loop_rounds 1 ?_
      rw [rounds_succ]
      go_wp2
      go_ret
      exact ⟨rfl, Dr.refl _⟩
    · obtain ⟨ga, oa, ca, La, ea, -, -, hA, hLa⟩ := ha.out.open_ (fun e => h0 (by rw [e]; rfl))
      obtain ⟨gb, ob, cb, Lb, eb, -, -, hB, hLb⟩ := hb.out.open_ (fun e => h0 (by rw [hne, e]; rfl))
      injection ea with ea1 _ ea2
      injection eb with eb1 _ eb2
      subst ea1 ea2 eb1 eb2
      rw [← hne]
      have HN := Lib.hid hne
      clear hne
      obtain ⟨n, hn⟩ : ∃ n, n = (dg a).length := ⟨_, rfl⟩
      rw [← hn] at hm ⊢
      have HL := Lib.hid hn
      have hpos : 0 < n := by omega
      clear hn h0 hm2
      go_enter Tryz.func165, Tryz.ntmps165
      go_wp2
      go_loopw [5] (fun i wr => ∃ k : Nat, i = .int .i64 ((k : Int) - 1) ∧ k ≤ n ∧ (dg a).drop k = (dg b).drop k ∧ Dr w wr) (fun i _ => (intOf i + 1).toNat)
      case atStart => exact ⟨n, rfl, Nat.le_refl _, by rw [HL.out, List.drop_length, HN.out, List.drop_length], Dr.refl _⟩
      case round =>
        obtain ⟨k, rfl, hk, hd, m, rfl⟩ := hrel
        have HD := Lib.hid hd
        clear hd
        by_cases h0 : 0 < k
        · obtain ⟨x, hx⟩ : ∃ x, (dg a)[k - 1]? = some x := ⟨_, List.getElem?_eq_getElem (by rw [← HL.out]; omega)⟩
          obtain ⟨y, hy⟩ : ∃ y, (dg b)[k - 1]? = some y := ⟨_, List.getElem?_eq_getElem (by rw [← HN.out, ← HL.out]; omega)⟩
          have hcx : w.cell? ⟨ga, oa + (k - 1), none⟩ = some (.int .u32 (x : Int)) := hA.cell (hLa _ _ hx)
          have hcy : w.cell? ⟨gb, ob + (k - 1), none⟩ = some (.int .u32 (y : Int)) := hB.cell (hLb _ _ hy)
          have hk1 : (0 : Int) ≤ (k : Int) - 1 := by omega
          have hk2 : (k : Int) - 1 < (n : Int) := by omega
          have HX := Lib.hid hx
          have HY := Lib.hid hy
          clear hx hy
          have HLT : Hid (x < y → a < b) := Lib.hid fun h => by
            have := val_lt_of_digit (sm_dg a) (k := k - 1) (by rw [show k - 1 + 1 = k by omega]; exact HD.out) HX.out HY.out h
            rwa [val_dg, val_dg] at this
          have HGT : Hid (y < x → b < a) := Lib.hid fun h => by
            have := val_lt_of_digit (sm_dg b) (k := k - 1) (by rw [show k - 1 + 1 = k by omega]; exact HD.out.symm) HY.out HX.out h
            rwa [val_dg, val_dg] at this
          have HEQ : Hid (x = y → (dg a).drop (k - 1) = (dg b).drop (k - 1)) := Lib.hid fun h => by
            have l1 : k - 1 < (dg a).length := by rw [← HL.out]; omega
            have l2 : k - 1 < (dg b).length := by rw [← HN.out, ← HL.out]; omega
            have e1 : (dg a)[k - 1] = x := by have := HX.out; rw [List.getElem?_eq_getElem l1] at this; exact Option.some.inj this
            have e2 : (dg b)[k - 1] = y := by have := HY.out; rw [List.getElem?_eq_getElem l2] at this; exact Option.some.inj this
            rw [List.drop_eq_getElem_cons l1, List.drop_eq_getElem_cons l2, e1, e2, h, show k - 1 + 1 = k by omega, HD.out]
          rcases Nat.lt_trichotomy x y with hlt | heq | hgt
          · have t1 : ((x : Int) != (y : Int)) = true := by rw [bne_iff_ne]; omega
            have t2 : ((x : Int) < (y : Int)) := by omega
            go_wp2
            go_quiet (fail)
            go_wp2
            go_quiet (fail)
            go_wp2
            go_ret
            exact ⟨by rw [cmpI_lt (HLT.out hlt)]; rfl, by repeat (first | exact Dr.refl _ | apply Dr.drewN)⟩
          · have HE2 := Lib.hid (HEQ.out heq)
            subst heq
            go_wp2
            go_quiet (fail)
            go_wp2
            go_roundw
            case rel => exact ⟨k - 1, by go_num, by omega, HE2.out, by repeat (first | exact Dr.refl _ | apply Dr.drewN)⟩
            case measure => simp [intOf]; omega
          · have t1 : ((x : Int) != (y : Int)) = true := by rw [bne_iff_ne]; omega
            have t2 : ((y : Int) < (x : Int)) := by omega
            go_wp2
            go_quiet (fail)
            go_wp2
            go_quiet (fail)
            go_wp2
            go_ret
            exact ⟨by rw [cmpI_gt (HGT.out hgt)]; rfl, by repeat (first | exact Dr.refl _ | apply Dr.drewN)⟩
        · obtain rfl : k = 0 := by omega
          have HE : Hid (a = b) := Lib.hid (by
            have := HD.out
            simp only [List.drop_zero] at this
            have := congrArg val this
            rwa [val_dg, val_dg] at this)
          go_wp2
          go_ret
          exact ⟨by rw [cmpI_eq HE.out]; rfl, (Dr.refl _).drewN _⟩
  · have hne' : (((dg a).length : Int) != ((dg b).length : Int)) = true := by rw [bne_iff_ne]; omega
    rcases Nat.lt_or_ge (dg a).length (dg b).length with h | h
    · have HC : Hid (cmpI a b = -1) := Lib.hid (cmpI_lt (lt_of_len h))
      go_enter Tryz.func165, Tryz.ntmps165
      go_wp2
      go_ret
      exact ⟨by rw [HC.out]; rfl, Dr.refl _⟩
    · have h' : (dg b).length < (dg a).length := by omega
      have HC : Hid (cmpI a b = 1) := Lib.hid (cmpI_gt (lt_of_len h'))
      go_enter Tryz.func165, Tryz.ntmps165
      go_wp2
      go_ret
      exact ⟨by rw [HC.out]; rfl, Dr.refl _⟩
open Go.RowKit
theorem info_u32 : (Tryz.prog.info? 243).map (fun i => (i.zero, i.size, i.bytes)) = some (some (.int .u32 0), 1, 4) := by kernel_rfl
theorem make_u32 (n : Nat) (hn : n ≤ 4294967296) (w : World) :
    (Instr.makeSlice 149 (.int .i64 (n : Int)) (.int .i64 (n : Int))).run Tryz.prog w = .ok (.slice (some ⟨w.heap.size, 0, none⟩) n n) (w.alloc (.cells (ivs .u32 (List.replicate n 0)).toArray 243)) := by
  obtain ⟨i, hi, hz0, hz1, hz2⟩ := info_parts info_u32
  have h1 : (i.bytes : Int) * (n : Int) ≤ 281474976710656 := by rw [hz2]; omega
  have hr := run_make (P := Tryz.prog) w 149 243 i _ Tryz.underlying149 hi hz0 .i64 .i64 n n (by omega) (Int.le_refl _) h1 (by omega)
  simp only [Int.toNat_natCast, hz1, Nat.mul_one] at hr
  rw [hr, show (Value.int IntKind.u32 0).cells = #[Value.int IntKind.u32 0] from rfl, made_zeros]
theorem Arr.new (w : World) (k : IntKind) (T : TypeId) (L : List Nat) : Arr (w.alloc (.cells (ivs k L).toArray T)) w.heap.size k T L := heap_alloc_new w _
def RetShort (a b : Nat) (w : World) (e : Ending) (w' : World) : Prop := ∃ v, e = .returned (.tuple #[v, .int .u32 ((a % b : Nat) : Int)]) ∧ Dg w' v (a / b) ∧ Below w.heap.size w w'
set_option maxHeartbeats 400000 in
theorem short_any (va : Value) (a b : Nat) (w : World) (ha : Dg w va a) (hb0 : 0 < b) (hb : b < 4294967296) (hlen : (dg a).length ≤ 1073741824) :
    Calls Tryz.prog 198 #[va, .int .u32 (b : Int)] w (RetShort a b w) := by
  obtain ⟨A, ca, rfl, ha1, ha2, ha3⟩ := id ha
  have hm : (dg a).length ≤ 9223372036854775807 := by omega
  have ha := Lib.hid ha
  have ha3 := Lib.hid ha3
  have hmk := make_u32 (dg a).length (by omega)
  obtain ⟨n, hn⟩ : ∃ n, n = (dg a).length := ⟨_, rfl⟩
  rw [← hn] at hm hmk hlen ⊢
  have HL := Lib.hid hn
  clear hn
  go_enter Tryz.func198, Tryz.ntmps198
  go_wp2
  have hA0 := Arr.new w .u32 243 (List.replicate n 0)
  generalize hw0 : w.alloc (.cells (ivs .u32 (List.replicate n 0)).toArray 243) = w0 at hA0 ⊢
  have hB0 : Below w.heap.size w w0 := by rw [← hw0]; exact (Below.refl _ _).alloc (Nat.le_refl _) _
  generalize hg : w.heap.size = g at *
  have HG := Lib.hid hg
  clear hw0 hg
  go_loopw [7, 8] (fun c i wr => ∃ k C : Nat, ∃ O : List Nat, i = .int .i64 ((k : Int) - 1) ∧ c = .int .u64 (C : Int) ∧ k ≤ n ∧ C < b ∧ O.length = n ∧ Sm O ∧ val (O.drop k) * b + C = val ((dg a).drop k) ∧ Arr wr g .u32 243 O ∧ Below g w wr) (fun _ i _ => (intOf i + 1).toNat)
  case atStart => exact ⟨n, 0, List.replicate n 0, rfl, rfl, Nat.le_refl _, hb0, by simp, sm_replicate _, by rw [HL.out, List.drop_length]; simp [val], hA0, hB0⟩
  case round =>
    obtain ⟨k, C, O, rfl, rfl, hk, hC, hO, hS, hv, hA, hB⟩ := hrel
    have HV := Lib.hid hv
    have HO := Lib.hid hO
    clear hv hO
    by_cases h0 : 0 < k
    · obtain ⟨x, hx⟩ : ∃ x, (dg a)[k - 1]? = some x := ⟨_, List.getElem?_eq_getElem (by rw [← HL.out]; omega)⟩
      obtain ⟨y, hy⟩ : ∃ y, O[k - 1]? = some y := ⟨_, List.getElem?_eq_getElem (by rw [HO.out]; omega)⟩
      obtain ⟨ga, oa, ca, La, ea, -, -, hAa, hLa⟩ := ha.out.open_ (fun e => by have := HL.out; rw [e] at this; simp at this; omega)
      injection ea with ea1 _ ea2
      subst ea1 ea2
      have hxs : x < 4294967296 := getElem?_dg hx
      have hcx : w.cell? ⟨ga, oa + (k - 1), none⟩ = some (.int .u32 (x : Int)) := hAa.cell (hLa _ _ hx)
      have hcx' : wr.cell? ⟨ga, oa + (k - 1), none⟩ = some (.int .u32 (x : Int)) := (hB.cell (by have := hAa.lt; rw [HG.out] at this; exact this)).trans hcx
      have hcy : wr.cell? ⟨g, k - 1, none⟩ = some (.int .u32 (y : Int)) := hA.cell hy
      have hfy : wr.frozen? ⟨g, k - 1, none⟩ = false := hA.frozen _
      have hk1 : (0 : Int) ≤ (k : Int) - 1 := by omega
      have hk2 : (k : Int) - 1 < (n : Int) := by omega
      obtain ⟨D, hD⟩ : ∃ D, D = C * 4294967296 + x := ⟨_, rfl⟩
      obtain ⟨q, hq⟩ : ∃ q, q = D / b := ⟨_, rfl⟩
      obtain ⟨r, hr⟩ : ∃ r, r = D % b := ⟨_, rfl⟩
      have hor : bits .or .u64 ((C : Int) * 4294967296) (x : Int) = (D : Int) := by rw [hD]; exact or64_hi C x (by omega) hxs
      have hdv : (D : Int).tdiv (b : Int) = (q : Int) := by rw [hq]; exact tdiv_nat D b
      have hmd : (D : Int).tmod (b : Int) = (r : Int) := by rw [hr]; exact tmod_nat D b
      have hdv' : (D : Int) / (b : Int) = (q : Int) := by rw [hq]; rfl
      have hmd' : (D : Int) % (b : Int) = (r : Int) := by rw [hr]; rfl
      have hqs : q < 4294967296 := by
        rw [hq, Nat.div_lt_iff_lt_mul hb0, hD]
        have : (C + 1) * 4294967296 ≤ b * 4294967296 := Nat.mul_le_mul_right _ hC
        rw [Nat.mul_comm 4294967296 b]
        omega
      have hrb : r < b := by rw [hr]; exact Nat.mod_lt _ hb0
      have hC' : C < 4294967296 := by omega
      have hstep : val ((O.set (k - 1) q).drop (k - 1)) * b + r = val ((dg a).drop (k - 1)) := by
        have hl : k - 1 < O.length := by rw [HO.out]; omega
        have e1 := val_drop_cons (l := O.set (k - 1) q) (j := k - 1) (x := q) (by simp [hl])
        have e2 := val_drop_cons hx
        rw [show k - 1 + 1 = k by omega] at e1 e2
        have e0 : (O.set (k - 1) q).drop k = O.drop k := List.drop_set_of_lt (by omega)
        rw [e0] at e1
        rw [e1, e2, ← HV.out]
        have e3 : q * b + r = D := by rw [hq, hr, Nat.mul_comm]; exact Nat.div_add_mod D b
        have e4 : (q + 4294967296 * val (O.drop k)) * b + r = q * b + r + 4294967296 * (val (O.drop k) * b) := by
          rw [Nat.add_mul, Nat.mul_assoc]; omega
        rw [e4, e3, hD]
        omega
      have HS2 := Lib.hid hstep
      clear hx hy hcx hstep hD hq hr
      go_wp2
      go_roundw
      case rel => exact ⟨k - 1, r, O.set (k - 1) q, by go_num, by go_num, by omega, hrb, by rw [List.length_set]; exact HO.out, hS.set_ hqs, HS2.out, hA.set_ _ _, hB.setCell (Nat.le_refl _) _⟩
      case measure => simp [intOf]; omega
    · obtain rfl : k = 0 := by omega
      have HV2 : Hid (val O * b + C = a) := Lib.hid (by have := HV.out; simp only [List.drop_zero] at this; rwa [val_dg] at this)
      have HD : Hid (a / b = val O) := Lib.hid (by
        rw [← HV2.out, Nat.add_comm, Nat.add_mul_div_right _ _ hb0, Nat.div_eq_of_lt hC]; omega)
      have HM : Hid (a % b = C) := Lib.hid (by
        rw [← HV2.out, Nat.add_comm, Nat.add_mul_mod_self_right, Nat.mod_eq_of_lt hC])
      have hR : Rd .u32 243 wr (.slice (some ⟨g, 0, none⟩) n n) O := by
        have := Rd.whole hA (by rw [HO.out]; unfold maxLen; omega)
        rwa [HO.out] at this
      go_wp2_with fail
      refine (cut_any _ O wr hR hS).mono ?_
      rintro e w1 ⟨v, rfl, hv, rfl⟩
      have HVv := Lib.hid hv
      clear hv
      go_wp2
      go_ret2
      refine ⟨v, ?_, by rw [HD.out]; exact HVv.out, ?_⟩
      · rw [HM.out]
        simp
        try omega
      · rw [HG.out]; exact hB
open Go.RowKit
structure ShlInv (l : List Nat) (k m s N : Nat) (O : List Nat) : Prop where
  len : O.length = N + m + 1
  sm : Sm O
  value : val O = 4294967296 ^ m * 2 ^ s * val (l.take k)
  zeros : ∀ j, k + m + 1 ≤ j → j < N + m + 1 → O[j]? = some 0
  low : ∀ y, O[k + m]? = some y → y < 2 ^ s
theorem ShlInv.start (l : List Nat) (m s N : Nat) : ShlInv l 0 m s N (List.replicate (N + m + 1) 0) where
  len := by simp
  sm := sm_replicate _
  value := by rw [val_replicate]; simp [val]
  zeros := fun j _ h => by simp [h]
  low := fun y hy => by
    rw [List.getElem?_replicate] at hy
    split at hy
    · cases hy; exact Nat.two_pow_pos s
    · cases hy
theorem two_pow_lt_32 {s : Nat} (h : s < 32) : 2 ^ s * 2 ^ (32 - s) = 4294967296 := by
  rw [← Nat.pow_add, show s + (32 - s) = 32 by omega]
theorem shl_room {x y s : Nat} (hs : s < 32) (hy : y < 2 ^ s) : y + x * 2 ^ s % 4294967296 < 4294967296 ∧ (y ||| x * 2 ^ s % 4294967296) = y + x * 2 ^ s % 4294967296 := by
  have e := two_pow_lt_32 hs
  have hp : 0 < 2 ^ (32 - s) := Nat.two_pow_pos _
  have e1 : x * 2 ^ s % 4294967296 = 2 ^ s * (x % 2 ^ (32 - s)) := by
    rw [← e, Nat.mul_comm x, Nat.mul_mod_mul_left]
  rw [e1]
  have h2 : x % 2 ^ (32 - s) + 1 ≤ 2 ^ (32 - s) := Nat.mod_lt _ hp
  have h3 := Nat.mul_le_mul_left (2 ^ s) h2
  rw [Nat.mul_add, e, Nat.mul_one] at h3
  refine ⟨by omega, ?_⟩
  have := Nat.two_pow_add_eq_or_of_lt hy (x % 2 ^ (32 - s))
  rw [Nat.or_comm, ← this, Nat.add_comm]
theorem shl_high {x s : Nat} (hx : x < 4294967296) : x * 2 ^ s / 4294967296 < 2 ^ s := by
  rw [Nat.div_lt_iff_lt_mul (by omega), Nat.mul_comm (2 ^ s)]
  exact Nat.mul_lt_mul_of_pos_right hx (Nat.two_pow_pos s)
theorem ShlInv.step {l : List Nat} {k m s N : Nat} {O : List Nat} (h : ShlInv l k m s N O) (hk : k < N) (hs : s < 32) {x y : Nat} (hx : l[k]? = some x) (hxs : x < 4294967296) (hy : O[k + m]? = some y) :
    ShlInv l (k + 1) m s N ((O.set (k + m) (y + x * 2 ^ s % 4294967296)).set (k + m + 1) (x * 2 ^ s / 4294967296)) where
  len := by simp [h.len]
  sm := (h.sm.set_ (shl_room hs (h.low y hy)).1).set_ (by
    have := shl_high (s := s) hxs
    have h2 : 2 ^ s ≤ 2 ^ 32 := Nat.pow_le_pow_right (by omega) (by omega)
    omega)
  value := by
    have hz : (O.set (k + m) (y + x * 2 ^ s % 4294967296))[k + m + 1]? = some 0 := by
      rw [List.getElem?_set_ne (by omega)]
      exact h.zeros _ (by omega) (by omega)
    have e1 := val_set (x * 2 ^ s / 4294967296) hz
    have e2 := val_set (y + x * 2 ^ s % 4294967296) hy
    rw [Nat.mul_zero, Nat.add_zero] at e1
    rw [e1, val_take_succ hx]
    have e3 : 4294967296 ^ (k + m) * (y + x * 2 ^ s % 4294967296) = 4294967296 ^ (k + m) * y + 4294967296 ^ (k + m) * (x * 2 ^ s % 4294967296) := Nat.mul_add _ _ _
    have e4 : 4294967296 ^ (k + m + 1) * (x * 2 ^ s / 4294967296) = 4294967296 ^ (k + m) * (4294967296 * (x * 2 ^ s / 4294967296)) := by rw [Nat.pow_succ, Nat.mul_assoc]
    have e5 : 4294967296 ^ (k + m) * (x * 2 ^ s % 4294967296) + 4294967296 ^ (k + m) * (4294967296 * (x * 2 ^ s / 4294967296)) = 4294967296 ^ (k + m) * (x * 2 ^ s) := by
      rw [← Nat.mul_add, Nat.mod_add_div]
    have e6 : 4294967296 ^ m * 2 ^ s * (val (l.take k) + 4294967296 ^ k * x) = val O + 4294967296 ^ (k + m) * (x * 2 ^ s) := by
      rw [h.value, Nat.mul_add, Nat.pow_add]
      congr 1
      ac_rfl
    omega
  zeros := fun j h1 h2 => by
    rw [List.getElem?_set_ne (by omega), List.getElem?_set_ne (by omega)]
    exact h.zeros j (by omega) h2
  low := fun v hv => by
    rw [show k + 1 + m = k + m + 1 by omega, List.getElem?_set_self (by simp [h.len]; omega)] at hv
    cases hv
    exact shl_high hxs
theorem or32_nat (a b : Nat) (ha : a < 4294967296) (hb : b < 4294967296) : bits .or .u32 (a : Int) (b : Int) = ((a ||| b : Nat) : Int) := u32_or_nat a b ha hb
set_option maxHeartbeats 400000 in
theorem left_any (va : Value) (a n : Nat) (w : World) (ha : Dg w va a) (hlen : (dg a).length ≤ 1073741824) (hn : n ≤ 17179869184) :
    Calls Tryz.prog 200 #[va, .int .u64 (n : Int)] w (RetDg (a * 2 ^ n) w) := by
  obtain ⟨A, ca, rfl, ha1, ha2, ha3⟩ := id ha
  have hm : (dg a).length ≤ 9223372036854775807 := by omega
  have ha := Lib.hid ha
  have ha3 := Lib.hid ha3
  by_cases hz : (dg a).length = 0
  · have e1 : a = 0 := (dg_len_zero a).1 hz
    subst e1
    clear hz
    simp only [dg_zero, List.length_nil]
    go_enter Tryz.func200, Tryz.ntmps200
    go_wp2
    go_ret
    exact ⟨.slice none 0 0, rfl, by rw [Nat.zero_mul]; exact Rd.nil_, Below.refl _ _⟩
  obtain ⟨ga, oa, ca, La, ea, -, -, hAa, hLa⟩ := ha.out.open_ (fun e => by rw [e] at hz; exact hz rfl)
  injection ea with ea1 _ ea2
  subst ea1 ea2
  obtain ⟨N, hN⟩ : ∃ N, N = (dg a).length := ⟨_, rfl⟩
  obtain ⟨m, hm'⟩ : ∃ m, m = n / 32 := ⟨_, rfl⟩
  obtain ⟨s, hs'⟩ : ∃ s, s = n % 32 := ⟨_, rfl⟩
  have hmk := make_u32 (N + m + 1) (by omega)
  have hmk' : ∀ w : World, (Instr.makeSlice 149 (.int .i64 ((N : Int) + (m : Int) + 1)) (.int .i64 ((N : Int) + (m : Int) + 1))).run Tryz.prog w = .ok (.slice (some ⟨w.heap.size, 0, none⟩) (N + m + 1) (N + m + 1)) (w.alloc (.cells (ivs .u32 (List.replicate (N + m + 1) 0)).toArray 243)) := fun w => hmk w
  have hdv : (n : Int) / 32 = (m : Int) := by omega
  have hmd : (n : Int) % 32 = (s : Int) := by omega
  have hs : s < 32 := by omega
  have hmb : m ≤ 536870912 := by omega
  rw [← hN] at hm hlen hz ⊢
  have hN0 : 0 < N := by omega
  have HL := Lib.hid hN
  have HM := Lib.hid hm'
  have HS := Lib.hid hs'
  clear hN hm' hs' hmk hz
  go_enter Tryz.func200, Tryz.ntmps200
  go_wp2
  have hA0 := Arr.new w .u32 243 (List.replicate (N + m + 1) 0)
  generalize hw0 : w.alloc (.cells (ivs .u32 (List.replicate (N + m + 1) 0)).toArray 243) = w0 at hA0 ⊢
  have hB0 : Below w.heap.size w w0 := by rw [← hw0]; exact (Below.refl _ _).alloc (Nat.le_refl _) _
  generalize hg : w.heap.size = g at *
  have HG := Lib.hid hg
  clear hw0 hg
  go_loopw [6, 7, 8, 22] (fun _ _ _ i wr => ∃ k : Nat, ∃ O : List Nat, i = .int .i64 (k : Int) ∧ k ≤ N ∧ ShlInv (dg a) k m s N O ∧ Arr wr g .u32 243 O ∧ Below g w wr) (fun _ _ _ i _ => N - (intOf i).toNat)
  case atStart => exact ⟨0, List.replicate (N + m + 1) 0, rfl, Nat.zero_le _, ShlInv.start _ _ _ _, hA0, hB0⟩
  case round =>
    obtain ⟨k, O, rfl, hk, hI, hA, hB⟩ := hrel
    have hI := Lib.hid hI
    by_cases h0 : k < N
    · obtain ⟨x, hx⟩ : ∃ x, (dg a)[k]? = some x := ⟨_, List.getElem?_eq_getElem (by rw [← HL.out]; omega)⟩
      obtain ⟨y, hy⟩ : ∃ y, O[k + m]? = some y := ⟨_, List.getElem?_eq_getElem (by rw [hI.out.len]; omega)⟩
      obtain ⟨z, hz⟩ : ∃ z, O[k + m + 1]? = some z := ⟨_, List.getElem?_eq_getElem (by rw [hI.out.len]; omega)⟩
      have hxs : x < 4294967296 := getElem?_dg hx
      have hcx : w.cell? ⟨ga, oa + k, none⟩ = some (.int .u32 (x : Int)) := hAa.cell (hLa _ _ hx)
      have hcx' : wr.cell? ⟨ga, oa + k, none⟩ = some (.int .u32 (x : Int)) := (hB.cell (by have := hAa.lt; rw [HG.out] at this; exact this)).trans hcx
      have hcy : wr.cell? ⟨g, k + m, none⟩ = some (.int .u32 (y : Int)) := hA.cell hy
      have hcz : wr.cell? ⟨g, k + m + 1, none⟩ = some (.int .u32 (z : Int)) := hA.cell hz
      have hfy : wr.frozen? ⟨g, k + m, none⟩ = false := hA.frozen _
      have hfz : wr.frozen? ⟨g, k + m + 1, none⟩ = false := hA.frozen _
      have hst := hI.out.step h0 hs hx hxs hy
      have hrm := shl_room (x := x) hs (hI.out.low y hy)
      have hhi := shl_high (s := s) hxs
      have hys : y < 4294967296 := hI.out.sm.get hy
      obtain ⟨Y, hY⟩ : ∃ Y, Y = x * 2 ^ s := ⟨_, rfl⟩
      have hY64 : Y < 18446744073709551616 := by
        rw [hY]
        have h2 : 2 ^ s ≤ 2 ^ 32 := Nat.pow_le_pow_right (by omega) (by omega)
        calc x * 2 ^ s ≤ x * 2 ^ 32 := Nat.mul_le_mul_left _ h2
          _ < 18446744073709551616 := by omega
      have hYi : (x : Int) * 2 ^ s = (Y : Int) := by rw [hY]; push_cast; rfl
      rw [← hY] at hst hrm hhi
      obtain ⟨R, hR⟩ : ∃ R, R = y + Y % 4294967296 := ⟨_, rfl⟩
      have hor : bits .or .u32 (y : Int) ((Y : Int) % 4294967296) = (R : Int) := by
        rw [hR, ← hrm.2, ← or32_nat y _ hys (Nat.mod_lt _ (by omega))]
        congr 1
      obtain ⟨S, hS⟩ : ∃ S, S = Y / 4294967296 := ⟨_, rfl⟩
      have hSi : (Y : Int) / 4294967296 = (S : Int) := by rw [hS]; rfl
      have hSs : S < 4294967296 := by omega
      rw [← hR, ← hS] at hst
      have hRs : R < 4294967296 := by rw [hR]; exact hrm.1
      have HST := Lib.hid hst
      clear hx hy hz hcx hst hrm hhi hY hR hS
      go_wp2
      go_roundw
      case rel => exact ⟨k + 1, _, by go_num, by omega, HST.out, (hA.set_ _ _).set_ _ _, (hB.setCell (Nat.le_refl _) _).setCell (Nat.le_refl _) _⟩
      case measure => simp [intOf]; omega
    · obtain rfl : k = N := by omega
      have HV : Hid (val O = a * 2 ^ n) := Lib.hid (by
        rw [hI.out.value, HL.out, List.take_length, val_dg, show (4294967296 : Nat) = 2 ^ 32 from rfl, ← Nat.pow_mul, ← Nat.pow_add, Nat.mul_comm]
        congr 2
        rw [HM.out, HS.out]
        exact Nat.div_add_mod n 32)
      have hR : Rd .u32 243 wr (.slice (some ⟨g, 0, none⟩) (k + m + 1) (k + m + 1)) O := by
        have := Rd.whole hA (by rw [hI.out.len]; unfold maxLen; omega)
        rwa [hI.out.len] at this
      go_wp2_with fail
      refine (cut_any _ O wr hR hI.out.sm).mono ?_
      rintro e w1 ⟨v, rfl, hv, rfl⟩
      have HVv := Lib.hid hv
      clear hv
      go_wp2
      go_ret
      refine ⟨v, rfl, by rw [← HV.out]; exact HVv.out, ?_⟩
      rw [HG.out]
      exact hB
theorem shr_step (x V : Nat) {s : Nat} (hs : s < 32) (hx : x < 4294967296) : (x + 4294967296 * V) / 2 ^ s = (V % 4294967296 * 4294967296 + x) / 2 ^ s % 4294967296 + 4294967296 * (V / 2 ^ s) := by
  have e := two_pow_lt_32 hs
  have hp : 0 < 2 ^ s := Nat.two_pow_pos _
  have hq : 0 < 2 ^ (32 - s) := Nat.two_pow_pos _
  generalize 2 ^ s = p at *
  generalize 2 ^ (32 - s) = q at *
  have h1 : ∀ U, (x + 4294967296 * U) / p = x / p + q * U := fun U => by
    rw [← e, Nat.mul_assoc, Nat.add_mul_div_left _ _ hp]
  have hc : x / p < q := by rw [Nat.div_lt_iff_lt_mul hp, Nat.mul_comm, e]; exact hx
  have h2 : ∀ U, q * U = 4294967296 * (U / p) + q * (U % p) := fun U => by
    have := Nat.div_add_mod U p
    rw [← e, Nat.mul_comm p q, Nat.mul_assoc, ← Nat.mul_add, this]
  have h3 : V % 4294967296 % p = V % p := by rw [← e]; exact Nat.mod_mul_right_mod V p q
  have h4 : x / p + q * (V % p) < 4294967296 := by
    have : V % p + 1 ≤ p := Nat.mod_lt _ hp
    have := Nat.mul_le_mul_left q this
    rw [Nat.mul_add, Nat.mul_comm q p, e] at this
    omega
  rw [Nat.add_comm (V % 4294967296 * 4294967296), Nat.mul_comm (V % 4294967296), h1, h1, h2 (V % 4294967296), h2 V, h3]
  have h5 : x / p + (4294967296 * (V % 4294967296 / p) + q * (V % p)) = (x / p + q * (V % p)) + 4294967296 * (V % 4294967296 / p) := by omega
  rw [h5, Nat.add_mul_mod_self_left, Nat.mod_eq_of_lt h4]
  omega
structure ShrInv (l : List Nat) (k s : Nat) (O : List Nat) : Prop where
  len : O.length = l.length
  sm : Sm O
  value : val (O.take k) + 4294967296 ^ k * (val (l.drop k) / 2 ^ s) = val l / 2 ^ s
theorem ShrInv.start (l : List Nat) (s : Nat) : ShrInv l 0 s (List.replicate l.length 0) := ⟨by simp, sm_replicate _, by simp [val]⟩
theorem ShrInv.step {l : List Nat} {k s : Nat} {O : List Nat} (h : ShrInv l k s O) (hs : s < 32) (hl : Sm l) {x z : Nat} (hx : l[k]? = some x) (hz : z = val (l.drop (k + 1)) % 4294967296) :
    ShrInv l (k + 1) s (O.set k ((z * 4294967296 + x) / 2 ^ s % 4294967296)) where
  len := by simp [h.len]
  sm := h.sm.set_ (Nat.mod_lt _ (by omega))
  value := by
    have hk := lt_of_getElem? hx
    have e1 := val_take_succ (l := O.set k ((z * 4294967296 + x) / 2 ^ s % 4294967296)) (j := k) (x := (z * 4294967296 + x) / 2 ^ s % 4294967296) (by simp [h.len, hk])
    have e2 : (O.set k ((z * 4294967296 + x) / 2 ^ s % 4294967296)).take k = O.take k := by rw [List.take_set_of_le (Nat.le_refl _)]
    have e3 := shr_step x (val (l.drop (k + 1))) hs (hl.get hx)
    have e4 := h.value
    have e5 : 4294967296 ^ k * 4294967296 = 4294967296 ^ (k + 1) := (Nat.pow_succ ..).symm
    rw [val_drop_cons hx, e3, ← hz, Nat.mul_add, ← Nat.mul_assoc, e5] at e4
    rw [e1, e2, ← e4, Nat.add_assoc]
theorem ShrInv.done {l : List Nat} {s : Nat} {O : List Nat} (h : ShrInv l l.length s O) : val O = val l / 2 ^ s := by
  have := h.value
  rw [List.drop_length, ← h.len, List.take_length] at this
  simpa [val] using this
theorem val_drop_mod {l : List Nat} {j z : Nat} (h : l[j]? = some z) (hl : Sm l) : val (l.drop j) % 4294967296 = z := by
  rw [val_drop_cons h, Nat.add_mul_mod_self_left]
  exact Nat.mod_eq_of_lt (hl.get h)
set_option maxRecDepth 100000 in
set_option maxHeartbeats 400000 in
theorem right_any (va : Value) (a n : Nat) (w : World) (ha : Dg w va a) (hlen : (dg a).length ≤ 1073741824) (hn : n ≤ 17179869184) :
    Calls Tryz.prog 201 #[va, .int .u64 (n : Int)] w (RetDg (a / 2 ^ n) w) := by
  obtain ⟨A, ca, rfl, ha1, ha2, ha3⟩ := id ha
  have hm : (dg a).length ≤ 9223372036854775807 := by omega
  have ha := Lib.hid ha
  have ha3 := Lib.hid ha3
  obtain ⟨N, hN⟩ : ∃ N, N = (dg a).length := ⟨_, rfl⟩
  obtain ⟨m, hm'⟩ : ∃ m, m = n / 32 := ⟨_, rfl⟩
  obtain ⟨s, hs'⟩ : ∃ s, s = n % 32 := ⟨_, rfl⟩
  have hdv : (n : Int) / 32 = (m : Int) := by omega
  have hmd : (n : Int) % 32 = (s : Int) := by omega
  have hs : s < 32 := by omega
  have hmb : m ≤ 536870912 := by omega
  have HP : Hid (a / 2 ^ n = a / 4294967296 ^ m / 2 ^ s) := Lib.hid (by
    rw [Nat.div_div_eq_div_mul, show (4294967296 : Nat) = 2 ^ 32 from rfl, ← Nat.pow_mul, ← Nat.pow_add, hm', hs', Nat.div_add_mod])
  rw [← hN] at hm hlen ha1 ⊢
  have HL := Lib.hid hN
  have HM := Lib.hid hm'
  have HS := Lib.hid hs'
  clear hN hm' hs'
  rcases Nat.lt_or_ge m N with hmN | hmN
  · obtain ⟨ga, oa, ca, La, ea, -, -, hAa, hLa⟩ := ha.out.open_ (fun e => by have := HL.out; rw [e] at this; simp at this; omega)
    injection ea with ea1 _ ea2
    subst ea1 ea2
    have hmk := make_u32 (N - m) (by omega)
    have hca : (N : Int) ≤ (ca : Int) := by omega
    go_enter Tryz.func201, Tryz.ntmps201
    go_wp2
    have hA0 := Arr.new w .u32 243 (List.replicate (N - m) 0)
    generalize hw0 : w.alloc (.cells (ivs .u32 (List.replicate (N - m) 0)).toArray 243) = w0 at hA0 ⊢
    have hB0 : Below w.heap.size w w0 := by rw [← hw0]; exact (Below.refl _ _).alloc (Nat.le_refl _) _
    generalize hg : w.heap.size = g at *
    have HG := Lib.hid hg
    clear hw0 hg hmk
    obtain ⟨l, hl⟩ : ∃ l, l = (dg a).drop m := ⟨_, rfl⟩
    obtain ⟨M, hM⟩ : ∃ M, M = N - m := ⟨_, rfl⟩
    have HLl : Hid (l.length = M) := Lib.hid (by rw [hl, hM, List.length_drop, HL.out])
    have HLv : Hid (val l = a / 4294967296 ^ m) := Lib.hid (by rw [hl, val_drop (sm_dg a), val_dg])
    have hls : Sm l := by rw [hl]; exact (sm_dg a).drop m
    have hLl : ∀ j x, l[j]? = some x → La (oa + m + j) = some x := fun j x hj => by
      rw [hl, List.getElem?_drop] at hj
      rw [Nat.add_assoc]
      exact hLa _ _ hj
    rw [← hM] at hA0 ⊢
    have hMb : M ≤ 1073741824 := by omega
    clear hl hM hLa
    go_loopw [6, 7, 23] (fun _ _ i wr => ∃ k : Nat, ∃ O : List Nat, i = .int .i64 (k : Int) ∧ k ≤ M ∧ ShrInv l k s O ∧ Arr wr g .u32 243 O ∧ Below g w wr) (fun _ _ i _ => M - (intOf i).toNat)
    case atStart => exact ⟨0, List.replicate M 0, rfl, Nat.zero_le _, by rw [← HLl.out]; exact ShrInv.start _ _, hA0, hB0⟩
    case round =>
      obtain ⟨k, O, rfl, hk, hI, hA, hB⟩ := hrel
      have hI := Lib.hid hI
      by_cases h0 : k < M
      · obtain ⟨x, hx⟩ : ∃ x, l[k]? = some x := ⟨_, List.getElem?_eq_getElem (by rw [HLl.out]; omega)⟩
        obtain ⟨y, hy⟩ : ∃ y, O[k]? = some y := ⟨_, List.getElem?_eq_getElem (by rw [hI.out.len, HLl.out]; omega)⟩
        have hxs : x < 4294967296 := hls.get hx
        have hgl : ga < g := by have := hAa.lt; rw [HG.out] at this; exact this
        have hcx' : wr.cell? ⟨ga, oa + m + k, none⟩ = some (.int .u32 (x : Int)) := (hB.cell hgl).trans (hAa.cell (hLl _ _ hx))
        have hcy : wr.cell? ⟨g, k, none⟩ = some (.int .u32 (y : Int)) := hA.cell hy
        have hfy : wr.frozen? ⟨g, k, none⟩ = false := hA.frozen _
        by_cases h1 : k + 1 < M
        · obtain ⟨z, hz⟩ : ∃ z, l[k + 1]? = some z := ⟨_, List.getElem?_eq_getElem (by rw [HLl.out]; omega)⟩
          have hzs : z < 4294967296 := hls.get hz
          have hcz : wr.cell? ⟨ga, oa + m + (k + 1), none⟩ = some (.int .u32 (z : Int)) := (hB.cell hgl).trans (hAa.cell (hLl _ _ hz))
          have hst := hI.out.step hs hls hx (val_drop_mod hz hls).symm
          obtain ⟨Y, hY⟩ : ∃ Y, Y = z * 4294967296 + x := ⟨_, rfl⟩
          have hor : bits .or .u64 (x : Int) ((z : Int) * 4294967296) = (Y : Int) := by rw [hY]; exact or64_lo z x hzs hxs
          rw [← hY] at hst
          obtain ⟨R, hR⟩ : ∃ R, R = Y / 2 ^ s := ⟨_, rfl⟩
          have hYR : (Y : Int) / 2 ^ s = (R : Int) := by rw [hR]; push_cast; rfl
          rw [← hR] at hst
          have HST := Lib.hid hst
          clear hx hy hz hst hY hR
          go_wp2
          go_roundw
          case rel => exact ⟨k + 1, _, by go_num, by omega, HST.out, hA.set_ _ _, hB.setCell (Nat.le_refl _) _⟩
          case measure => simp [intOf]; omega
        · have hst := hI.out.step (z := 0) hs hls hx (by rw [List.drop_eq_nil_of_le (by rw [HLl.out]; omega)]; rfl)
          rw [Nat.zero_mul, Nat.zero_add] at hst
          obtain ⟨R, hR⟩ : ∃ R, R = x / 2 ^ s := ⟨_, rfl⟩
          have hYR : (x : Int) / 2 ^ s = (R : Int) := by rw [hR]; push_cast; rfl
          rw [← hR] at hst
          have HST := Lib.hid hst
          clear hx hy hst hR
          go_wp2
          go_roundw
          case rel => exact ⟨k + 1, _, by go_num, by omega, HST.out, hA.set_ _ _, hB.setCell (Nat.le_refl _) _⟩
          case measure => simp [intOf]; omega
      · obtain rfl : k = M := by omega
        have HV : Hid (val O = a / 2 ^ n) := Lib.hid (by
          have := hI.out
          rw [← HLl.out] at this
          rw [this.done, HLv.out, HP.out])
        have hR : Rd .u32 243 wr (.slice (some ⟨g, 0, none⟩) k k) O := by
          have := Rd.whole hA (by rw [hI.out.len, HLl.out]; unfold maxLen; omega)
          rwa [hI.out.len, HLl.out] at this
        go_wp2_with fail
        refine (cut_any _ O wr hR hI.out.sm).mono ?_
        rintro e w1 ⟨v, rfl, hv, rfl⟩
        have HVv := Lib.hid hv
        clear hv
        go_wp2
        go_ret
        refine ⟨v, rfl, by rw [← HV.out]; exact HVv.out, ?_⟩
        rw [HG.out]
        exact hB
  · have HZ : Hid (a / 2 ^ n = 0) := Lib.hid (by
      rw [HP.out]
      have : a / 4294967296 ^ m = 0 := by
        rw [Nat.div_eq_zero_iff]
        right
        refine Nat.lt_of_lt_of_le (dg_lt a) (Nat.pow_le_pow_right (by omega) ?_)
        rw [← HL.out]; exact hmN
      rw [this, Nat.zero_div])
    have hmN' : (N : Int) ≤ (m : Int) := by omega
    go_enter Tryz.func201, Tryz.ntmps201
    go_wp2
    go_ret
    exact ⟨.slice none 0 0, rfl, by rw [HZ.out]; exact Rd.nil_, Below.refl _ _⟩
end Go.Proofs.YtoaggmegmgdgbaaGreat
