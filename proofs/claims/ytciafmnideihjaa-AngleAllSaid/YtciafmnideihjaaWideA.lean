/- The small functions of package wide on digits: cut, cmp, size. · Package wide: short, the division of digits by one digit. -/
import Derived.Test.YtciafmnideihjaaRows
import Derived.Test.YtciafmnideihjaaMem
namespace Go.Proofs.Ytciafmnideihjaa
open Go.RowKit

/-- The digits up to the last one that is not 0. -/
theorem dg_of_take {l : List Nat} {n : Nat} (h : Sm l) (hn : n ≤ l.length) (hv : val (l.take n) = val l) (hx : 0 < n → ∃ x, l[n - 1]? = some x ∧ 0 < x) : dg (val l) = l.take n := by
  rw [← hv]
  refine dg_of_last (h.take n) fun x hx' => ?_
  rw [List.getLast?_eq_getElem?, List.length_take, Nat.min_eq_left hn] at hx'
  by_cases h0 : 0 < n
  · obtain ⟨y, hy, hpos⟩ := hx h0
    rw [List.getElem?_take, if_pos (by omega), hy] at hx'
    have := Option.some.inj hx'
    omega
  · have : n = 0 := by omega
    subst this
    simp at hx'

set_option maxHeartbeats 400000 in
/-- digits.cut: the same number, without noughts at the end. -/
theorem cut_any (v : Value) (l : List Nat) (w : World) (h : Rd .u32 143 w v l) (hs : Sm l) :
    Calls Try.prog 121 #[v] w (RetDgS (val l) w) := by
  by_cases hn : l = []
  · subst hn
    obtain ⟨A, c, rfl, h1, h2, h3⟩ := id h
    have h := Lib.hid h
    simp only [List.length_nil]
    go_enter Try.func121, Try.ntmps121
    go_wp2
    refine wp_loop_rounds 1 ?_
    rw [rounds_succ]
    go_wp2
    go_ret
    exact ⟨_, rfl, h.out, rfl⟩
  · obtain ⟨g, off, c, L, rfl, h1, h2, hA, hL⟩ := h.open_ hn
    have hm : l.length ≤ 9223372036854775807 := Nat.le_trans h1 (by unfold maxLen at h2; exact h2)
    clear h
    go_enter Try.func121, Try.ntmps121
    go_wp2
    go_loop [0] (fun s => ∃ n : Nat, s = .slice (some ⟨g, off, none⟩) n c ∧ n ≤ l.length ∧ val (l.take n) = val l) lenV
    case atStart => exact ⟨l.length, rfl, Nat.le_refl _, by simp⟩
    case round =>
      obtain ⟨n, rfl, hn1, hv⟩ := hrel
      have HV := Lib.hid hv
      clear hv
      by_cases h0 : 0 < n
      · obtain ⟨x, hx⟩ : ∃ x, l[n - 1]? = some x := ⟨_, List.getElem?_eq_getElem (by omega)⟩
        have hc : w.cell? ⟨g, off + (n - 1), none⟩ = some (.int .u32 (x : Int)) := hA.cell (hL _ _ hx)
        by_cases hz : x = 0
        · subst hz
          have hv2 : val (l.take (n - 1)) = val l := by
            have := val_take_succ hx
            rw [show n - 1 + 1 = n by omega, HV.out] at this
            omega
          have HV2 := Lib.hid hv2
          clear hx hv2
          go_wp2
          go_round
          case rel => exact ⟨n - 1, rfl, by omega, HV2.out⟩
          case measure => simp [lenV]; omega
        · have hx0 : ((x : Int) == 0) = false := by simpa using hz
          have HX := Lib.hid hx
          have hpos : 0 < x := by omega
          clear hx hz
          go_wp2
          go_ret
          refine ⟨.slice (some ⟨g, off, none⟩) n c, rfl, ?_, rfl⟩
          unfold Dg
          rw [dg_of_take hs hn1 HV.out (fun _ => ⟨x, HX.out, hpos⟩)]
          refine ⟨_, c, by rw [List.length_take, Nat.min_eq_left hn1], by rw [List.length_take]; omega, h2, fun _ => ⟨g, off, L, rfl, hA, fun j y hj => ?_⟩⟩
          rw [List.getElem?_take] at hj
          split at hj
          · exact hL _ _ hj
          · cases hj
      · obtain rfl : n = 0 := by omega
        go_wp2
        go_ret
        refine ⟨.slice (some ⟨g, off, none⟩) 0 c, rfl, ?_, rfl⟩
        unfold Dg
        rw [dg_of_take hs (Nat.zero_le _) HV.out (fun h => absurd h (by omega))]
        exact ⟨_, c, rfl, by simp, h2, fun h => absurd rfl h⟩

theorem cmpI_lt {a b : Nat} (h : a < b) : cmpI a b = -1 := by simp [cmpI, h]
theorem cmpI_gt {a b : Nat} (h : b < a) : cmpI a b = 1 := by rw [cmpI, if_neg (by omega), if_pos h]
theorem cmpI_eq {a b : Nat} (h : a = b) : cmpI a b = 0 := by subst h; simp [cmpI]

/-- The outcome: the order of two numbers; the world has but drawn. -/
def RetCmp (a b : Nat) (w : World) (e : Ending) (w' : World) : Prop := e = .returned (.int .i64 (cmpI a b)) ∧ Dr w w'

set_option maxHeartbeats 400000 in
/-- digits.cmp -/
theorem cmp_any (va vb : Value) (a b : Nat) (w : World) (ha : Dg w va a) (hb : Dg w vb b) :
    Calls Try.prog 97 #[va, vb] w (RetCmp a b w) := by
  obtain ⟨A, ca, rfl, ha1, ha2, ha3⟩ := id ha
  obtain ⟨B, cb, rfl, hb1, hb2, hb3⟩ := id hb
  have hm : (dg a).length ≤ 9223372036854775807 := Nat.le_trans ha1 (by unfold maxLen at ha2; exact ha2)
  have hm2 : (dg b).length ≤ 9223372036854775807 := Nat.le_trans hb1 (by unfold maxLen at hb2; exact hb2)
  have ha := Lib.hid ha
  have hb := Lib.hid hb
  have ha3 := Lib.hid ha3
  have hb3 := Lib.hid hb3
  by_cases hne : (dg a).length = (dg b).length
  · by_cases h0 : (dg a).length = 0
    · have e1 : a = 0 := (dg_len_zero a).1 h0
      have e2 : b = 0 := (dg_len_zero b).1 (hne ▸ h0)
      subst e1 e2
      clear hne h0
      simp only [dg_zero, List.length_nil]
      go_enter Try.func97, Try.ntmps97
      go_wp2
      refine wp_loop_rounds 1 ?_
      rw [rounds_succ]
      go_wp2
      go_ret
      exact ⟨rfl, Dr.refl _⟩
    · obtain ⟨ga, oa, ca, La, ea, -, -, hA, hLa⟩ := ha.out.open_ (fun e => h0 (by rw [e]; rfl))
      obtain ⟨gb, ob, cb, Lb, eb, -, -, hB, hLb⟩ := hb.out.open_ (fun e => h0 (by rw [hne, e]; rfl))
      injection ea with ea1 _ ea2
      injection eb with eb1 _ eb2
      subst ea1 ea2 eb1 eb2
      rw [← hne]
      have HN := Lib.hid hne
      clear hne
      obtain ⟨n, hn⟩ : ∃ n, n = (dg a).length := ⟨_, rfl⟩
      rw [← hn] at hm ⊢
      have HL := Lib.hid hn
      have hpos : 0 < n := by omega
      clear hn h0 hm2
      go_enter Try.func97, Try.ntmps97
      go_wp2
      go_loopw [5] (fun i wr => ∃ k : Nat, i = .int .i64 ((k : Int) - 1) ∧ k ≤ n ∧ (dg a).drop k = (dg b).drop k ∧ Dr w wr) (fun i _ => (intOf i + 1).toNat)
      case atStart => exact ⟨n, rfl, Nat.le_refl _, by rw [HL.out, List.drop_length, HN.out, List.drop_length], Dr.refl _⟩
      case round =>
        obtain ⟨k, rfl, hk, hd, m, rfl⟩ := hrel
        have HD := Lib.hid hd
        clear hd
        by_cases h0 : 0 < k
        · obtain ⟨x, hx⟩ : ∃ x, (dg a)[k - 1]? = some x := ⟨_, List.getElem?_eq_getElem (by rw [← HL.out]; omega)⟩
          obtain ⟨y, hy⟩ : ∃ y, (dg b)[k - 1]? = some y := ⟨_, List.getElem?_eq_getElem (by rw [← HN.out, ← HL.out]; omega)⟩
          have hcx : w.cell? ⟨ga, oa + (k - 1), none⟩ = some (.int .u32 (x : Int)) := hA.cell (hLa _ _ hx)
          have hcy : w.cell? ⟨gb, ob + (k - 1), none⟩ = some (.int .u32 (y : Int)) := hB.cell (hLb _ _ hy)
          have hk1 : (0 : Int) ≤ (k : Int) - 1 := by omega
          have hk2 : (k : Int) - 1 < (n : Int) := by omega
          have HX := Lib.hid hx
          have HY := Lib.hid hy
          clear hx hy
          have HLT : Hid (x < y → a < b) := Lib.hid fun h => by
            have := val_lt_of_digit (sm_dg a) (k := k - 1) (by rw [show k - 1 + 1 = k by omega]; exact HD.out) HX.out HY.out h
            rwa [val_dg, val_dg] at this
          have HGT : Hid (y < x → b < a) := Lib.hid fun h => by
            have := val_lt_of_digit (sm_dg b) (k := k - 1) (by rw [show k - 1 + 1 = k by omega]; exact HD.out.symm) HY.out HX.out h
            rwa [val_dg, val_dg] at this
          have HEQ : Hid (x = y → (dg a).drop (k - 1) = (dg b).drop (k - 1)) := Lib.hid fun h => by
            have l1 : k - 1 < (dg a).length := by rw [← HL.out]; omega
            have l2 : k - 1 < (dg b).length := by rw [← HN.out, ← HL.out]; omega
            have e1 : (dg a)[k - 1] = x := by have := HX.out; rw [List.getElem?_eq_getElem l1] at this; exact Option.some.inj this
            have e2 : (dg b)[k - 1] = y := by have := HY.out; rw [List.getElem?_eq_getElem l2] at this; exact Option.some.inj this
            rw [List.drop_eq_getElem_cons l1, List.drop_eq_getElem_cons l2, e1, e2, h, show k - 1 + 1 = k by omega, HD.out]
          rcases Nat.lt_trichotomy x y with hlt | heq | hgt
          · have t1 : ((x : Int) != (y : Int)) = true := by rw [bne_iff_ne]; omega
            have t2 : ((x : Int) < (y : Int)) := by omega
            go_wp2
            go_quiet (fail)
            go_wp2
            go_quiet (fail)
            go_wp2
            go_ret
            exact ⟨by rw [cmpI_lt (HLT.out hlt)]; rfl, by repeat (first | exact Dr.refl _ | apply Dr.drewN)⟩
          · have HE2 := Lib.hid (HEQ.out heq)
            subst heq
            go_wp2
            go_quiet (fail)
            go_wp2
            go_roundw
            case rel => exact ⟨k - 1, by go_num, by omega, HE2.out, by repeat (first | exact Dr.refl _ | apply Dr.drewN)⟩
            case measure => simp [intOf]; omega
          · have t1 : ((x : Int) != (y : Int)) = true := by rw [bne_iff_ne]; omega
            have t2 : ((y : Int) < (x : Int)) := by omega
            go_wp2
            go_quiet (fail)
            go_wp2
            go_quiet (fail)
            go_wp2
            go_ret
            exact ⟨by rw [cmpI_gt (HGT.out hgt)]; rfl, by repeat (first | exact Dr.refl _ | apply Dr.drewN)⟩
        · obtain rfl : k = 0 := by omega
          have HE : Hid (a = b) := Lib.hid (by
            have := HD.out
            simp only [List.drop_zero] at this
            have := congrArg val this
            rwa [val_dg, val_dg] at this)
          go_wp2
          go_ret
          exact ⟨by rw [cmpI_eq HE.out]; rfl, (Dr.refl _).drewN _⟩
  · have hne' : (((dg a).length : Int) != ((dg b).length : Int)) = true := by rw [bne_iff_ne]; omega
    rcases Nat.lt_or_ge (dg a).length (dg b).length with h | h
    · have HC : Hid (cmpI a b = -1) := Lib.hid (cmpI_lt (lt_of_len h))
      go_enter Try.func97, Try.ntmps97
      go_wp2
      go_ret
      exact ⟨by rw [HC.out]; rfl, Dr.refl _⟩
    · have h' : (dg b).length < (dg a).length := by omega
      have HC : Hid (cmpI a b = 1) := Lib.hid (cmpI_gt (lt_of_len h'))
      go_enter Try.func97, Try.ntmps97
      go_wp2
      go_ret
      exact ⟨by rw [HC.out]; rfl, Dr.refl _⟩
end Go.Proofs.Ytciafmnideihjaa

namespace Go.Proofs.Ytciafmnideihjaa
open Go.RowKit

theorem info_u32 : (Try.prog.info? 143).map (fun i => (i.zero, i.size, i.bytes)) = some (some (.int .u32 0), 1, 4) := by kernel_rfl

/-- make([]uint32, n) -/
theorem make_u32 (n : Nat) (hn : n ≤ 4294967296) (w : World) :
    (Instr.makeSlice 118 (.int .i64 (n : Int)) (.int .i64 (n : Int))).run Try.prog w = .ok (.slice (some ⟨w.heap.size, 0, none⟩) n n) (w.alloc (.cells (ivs .u32 (List.replicate n 0)).toArray 143)) := by
  obtain ⟨i, hi, hz0, hz1, hz2⟩ := info_parts info_u32
  have h1 : (i.bytes : Int) * (n : Int) ≤ 281474976710656 := by rw [hz2]; omega
  have hr := run_make (P := Try.prog) w 118 143 i _ Try.underlying118 hi hz0 .i64 .i64 n n (by omega) (Int.le_refl _) h1 (by omega)
  simp only [Int.toNat_natCast, hz1, Nat.mul_one] at hr
  rw [hr, show (Value.int IntKind.u32 0).cells = #[Value.int IntKind.u32 0] from rfl, made_zeros]

theorem Arr.new (w : World) (k : IntKind) (T : TypeId) (L : List Nat) : Arr (w.alloc (.cells (ivs k L).toArray T)) w.heap.size k T L := heap_alloc_new w _

/-- The outcome of a division by one digit. -/
def RetShort (a b : Nat) (w : World) (e : Ending) (w' : World) : Prop := ∃ v, e = .returned (.tuple #[v, .int .u32 ((a % b : Nat) : Int)]) ∧ Dg w' v (a / b) ∧ Below w.heap.size w w'

set_option maxHeartbeats 400000 in
/-- digits.short -/
theorem short_any (va : Value) (a b : Nat) (w : World) (ha : Dg w va a) (hb0 : 0 < b) (hb : b < 4294967296) (hlen : (dg a).length ≤ 1073741824) :
    Calls Try.prog 122 #[va, .int .u32 (b : Int)] w (RetShort a b w) := by
  obtain ⟨A, ca, rfl, ha1, ha2, ha3⟩ := id ha
  have hm : (dg a).length ≤ 9223372036854775807 := by omega
  have ha := Lib.hid ha
  have ha3 := Lib.hid ha3
  have hmk := make_u32 (dg a).length (by omega)
  obtain ⟨n, hn⟩ : ∃ n, n = (dg a).length := ⟨_, rfl⟩
  rw [← hn] at hm hmk hlen ⊢
  have HL := Lib.hid hn
  clear hn
  go_enter Try.func122, Try.ntmps122
  go_wp2
  have hA0 := Arr.new w .u32 143 (List.replicate n 0)
  generalize hw0 : w.alloc (.cells (ivs .u32 (List.replicate n 0)).toArray 143) = w0 at hA0 ⊢
  have hB0 : Below w.heap.size w w0 := by rw [← hw0]; exact (Below.refl _ _).alloc (Nat.le_refl _) _
  generalize hg : w.heap.size = g at *
  have HG := Lib.hid hg
  clear hw0 hg
  go_loopw [7, 8] (fun c i wr => ∃ k C : Nat, ∃ O : List Nat, i = .int .i64 ((k : Int) - 1) ∧ c = .int .u64 (C : Int) ∧ k ≤ n ∧ C < b ∧ O.length = n ∧ Sm O ∧ val (O.drop k) * b + C = val ((dg a).drop k) ∧ Arr wr g .u32 143 O ∧ Below g w wr) (fun _ i _ => (intOf i + 1).toNat)
  case atStart => exact ⟨n, 0, List.replicate n 0, rfl, rfl, Nat.le_refl _, hb0, by simp, sm_replicate _, by rw [HL.out, List.drop_length]; simp [val], hA0, hB0⟩
  case round =>
    obtain ⟨k, C, O, rfl, rfl, hk, hC, hO, hS, hv, hA, hB⟩ := hrel
    have HV := Lib.hid hv
    have HO := Lib.hid hO
    clear hv hO
    by_cases h0 : 0 < k
    · obtain ⟨x, hx⟩ : ∃ x, (dg a)[k - 1]? = some x := ⟨_, List.getElem?_eq_getElem (by rw [← HL.out]; omega)⟩
      obtain ⟨y, hy⟩ : ∃ y, O[k - 1]? = some y := ⟨_, List.getElem?_eq_getElem (by rw [HO.out]; omega)⟩
      obtain ⟨ga, oa, ca, La, ea, -, -, hAa, hLa⟩ := ha.out.open_ (fun e => by have := HL.out; rw [e] at this; simp at this; omega)
      injection ea with ea1 _ ea2
      subst ea1 ea2
      have hxs : x < 4294967296 := getElem?_dg hx
      have hcx : w.cell? ⟨ga, oa + (k - 1), none⟩ = some (.int .u32 (x : Int)) := hAa.cell (hLa _ _ hx)
      have hcx' : wr.cell? ⟨ga, oa + (k - 1), none⟩ = some (.int .u32 (x : Int)) := (hB.cell (by have := hAa.lt; rw [HG.out] at this; exact this)).trans hcx
      have hcy : wr.cell? ⟨g, k - 1, none⟩ = some (.int .u32 (y : Int)) := hA.cell hy
      have hfy : wr.frozen? ⟨g, k - 1, none⟩ = false := hA.frozen _
      have hk1 : (0 : Int) ≤ (k : Int) - 1 := by omega
      have hk2 : (k : Int) - 1 < (n : Int) := by omega
      obtain ⟨D, hD⟩ : ∃ D, D = C * 4294967296 + x := ⟨_, rfl⟩
      obtain ⟨q, hq⟩ : ∃ q, q = D / b := ⟨_, rfl⟩
      obtain ⟨r, hr⟩ : ∃ r, r = D % b := ⟨_, rfl⟩
      have hor : bits .or .u64 ((C : Int) * 4294967296) (x : Int) = (D : Int) := by rw [hD]; exact or64_hi C x (by omega) hxs
      have hdv : (D : Int).tdiv (b : Int) = (q : Int) := by rw [hq]; exact tdiv_nat D b
      have hmd : (D : Int).tmod (b : Int) = (r : Int) := by rw [hr]; exact tmod_nat D b
      have hdv' : (D : Int) / (b : Int) = (q : Int) := by rw [hq]; rfl
      have hmd' : (D : Int) % (b : Int) = (r : Int) := by rw [hr]; rfl
      have hqs : q < 4294967296 := by
        rw [hq, Nat.div_lt_iff_lt_mul hb0, hD]
        have : (C + 1) * 4294967296 ≤ b * 4294967296 := Nat.mul_le_mul_right _ hC
        rw [Nat.mul_comm 4294967296 b]
        omega
      have hrb : r < b := by rw [hr]; exact Nat.mod_lt _ hb0
      have hC' : C < 4294967296 := by omega
      have hstep : val ((O.set (k - 1) q).drop (k - 1)) * b + r = val ((dg a).drop (k - 1)) := by
        have hl : k - 1 < O.length := by rw [HO.out]; omega
        have e1 := val_drop_cons (l := O.set (k - 1) q) (j := k - 1) (x := q) (by simp [hl])
        have e2 := val_drop_cons hx
        rw [show k - 1 + 1 = k by omega] at e1 e2
        have e0 : (O.set (k - 1) q).drop k = O.drop k := List.drop_set_of_lt (by omega)
        rw [e0] at e1
        rw [e1, e2, ← HV.out]
        have e3 : q * b + r = D := by rw [hq, hr, Nat.mul_comm]; exact Nat.div_add_mod D b
        have e4 : (q + 4294967296 * val (O.drop k)) * b + r = q * b + r + 4294967296 * (val (O.drop k) * b) := by
          rw [Nat.add_mul, Nat.mul_assoc]; omega
        rw [e4, e3, hD]
        omega
      have HS2 := Lib.hid hstep
      clear hx hy hcx hstep hD hq hr
      go_wp2
      go_roundw
      case rel => exact ⟨k - 1, r, O.set (k - 1) q, by go_num, by go_num, by omega, hrb, by rw [List.length_set]; exact HO.out, hS.set_ hqs, HS2.out, hA.set_ _ _, hB.setCell (Nat.le_refl _) _⟩
      case measure => simp [intOf]; omega
    · obtain rfl : k = 0 := by omega
      have HV2 : Hid (val O * b + C = a) := Lib.hid (by have := HV.out; simp only [List.drop_zero] at this; rwa [val_dg] at this)
      have HD : Hid (a / b = val O) := Lib.hid (by
        rw [← HV2.out, Nat.add_comm, Nat.add_mul_div_right _ _ hb0, Nat.div_eq_of_lt hC]; omega)
      have HM : Hid (a % b = C) := Lib.hid (by
        rw [← HV2.out, Nat.add_comm, Nat.add_mul_mod_self_right, Nat.mod_eq_of_lt hC])
      have hR : Rd .u32 143 wr (.slice (some ⟨g, 0, none⟩) n n) O := by
        have := Rd.whole hA (by rw [HO.out]; unfold maxLen; omega)
        rwa [HO.out] at this
      go_wp2_with fail
      refine (cut_any _ O wr hR hS).mono ?_
      rintro e w1 ⟨v, rfl, hv, rfl⟩
      have HVv := Lib.hid hv
      clear hv
      go_wp2
      go_ret2
      refine ⟨v, ?_, by rw [HD.out]; exact HVv.out, ?_⟩
      · rw [HM.out]
        simp
        try omega
      · rw [HG.out]; exact hB
end Go.Proofs.Ytciafmnideihjaa
