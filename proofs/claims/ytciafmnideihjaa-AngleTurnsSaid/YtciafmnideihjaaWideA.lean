/- The small functions of package wide on digits: cut, cmp, size. -/
import Derived.Test.YtciafmnideihjaaRows
import Derived.Test.YtciafmnideihjaaMem
namespace Go.Proofs.Ytciafmnideihjaa
open Go.RowKit

/-- The digits up to the last one that is not 0. -/
theorem dg_of_take {l : List Nat} {n : Nat} (h : Sm l) (hn : n ≤ l.length) (hv : val (l.take n) = val l) (hx : 0 < n → ∃ x, l[n - 1]? = some x ∧ 0 < x) : dg (val l) = l.take n := by
  rw [← hv]
  refine dg_of_last (h.take n) fun x hx' => ?_
  rw [List.getLast?_eq_getElem?, List.length_take, Nat.min_eq_left hn] at hx'
  by_cases h0 : 0 < n
  · obtain ⟨y, hy, hpos⟩ := hx h0
    rw [List.getElem?_take, if_pos (by omega), hy] at hx'
    have := Option.some.inj hx'
    omega
  · have : n = 0 := by omega
    subst this
    simp at hx'

set_option maxHeartbeats 400000 in
/-- digits.cut: the same number, without noughts at the end. -/
theorem cut_any (v : Value) (l : List Nat) (w : World) (h : Rd .u32 143 w v l) (hs : Sm l) :
    Calls Try.prog 121 #[v] w (RetDgS (val l) w) := by
  by_cases hn : l = []
  · subst hn
    obtain ⟨A, c, rfl, h1, h2, h3⟩ := id h
    have h := Lib.hid h
    simp only [List.length_nil]
    go_enter Try.func121, Try.ntmps121
    go_wp2
    refine wp_loop_rounds 1 ?_
    rw [rounds_succ]
    go_wp2
    go_ret
    exact ⟨_, rfl, h.out, rfl⟩
  · obtain ⟨g, off, c, L, rfl, h1, h2, hA, hL⟩ := h.open_ hn
    have hm : l.length ≤ 9223372036854775807 := Nat.le_trans h1 (by unfold maxLen at h2; exact h2)
    clear h
    go_enter Try.func121, Try.ntmps121
    go_wp2
    go_loop [0] (fun s => ∃ n : Nat, s = .slice (some ⟨g, off, none⟩) n c ∧ n ≤ l.length ∧ val (l.take n) = val l) lenV
    case atStart => exact ⟨l.length, rfl, Nat.le_refl _, by simp⟩
    case round =>
      obtain ⟨n, rfl, hn1, hv⟩ := hrel
      have HV := Lib.hid hv
      clear hv
      by_cases h0 : 0 < n
      · obtain ⟨x, hx⟩ : ∃ x, l[n - 1]? = some x := ⟨_, List.getElem?_eq_getElem (by omega)⟩
        have hc : w.cell? ⟨g, off + (n - 1), none⟩ = some (.int .u32 (x : Int)) := hA.cell (hL _ _ hx)
        by_cases hz : x = 0
        · subst hz
          have hv2 : val (l.take (n - 1)) = val l := by
            have := val_take_succ hx
            rw [show n - 1 + 1 = n by omega, HV.out] at this
            omega
          have HV2 := Lib.hid hv2
          clear hx hv2
          go_wp2
          go_round
          case rel => exact ⟨n - 1, rfl, by omega, HV2.out⟩
          case measure => simp [lenV]; omega
        · have hx0 : ((x : Int) == 0) = false := by simpa using hz
          have HX := Lib.hid hx
          have hpos : 0 < x := by omega
          clear hx hz
          go_wp2
          go_ret
          refine ⟨.slice (some ⟨g, off, none⟩) n c, rfl, ?_, rfl⟩
          unfold Dg
          rw [dg_of_take hs hn1 HV.out (fun _ => ⟨x, HX.out, hpos⟩)]
          refine ⟨_, c, by rw [List.length_take, Nat.min_eq_left hn1], by rw [List.length_take]; omega, h2, fun _ => ⟨g, off, L, rfl, hA, fun j y hj => ?_⟩⟩
          rw [List.getElem?_take] at hj
          split at hj
          · exact hL _ _ hj
          · cases hj
      · obtain rfl : n = 0 := by omega
        go_wp2
        go_ret
        refine ⟨.slice (some ⟨g, off, none⟩) 0 c, rfl, ?_, rfl⟩
        unfold Dg
        rw [dg_of_take hs (Nat.zero_le _) HV.out (fun h => absurd h (by omega))]
        exact ⟨_, c, rfl, by simp, h2, fun h => absurd rfl h⟩

theorem cmpI_lt {a b : Nat} (h : a < b) : cmpI a b = -1 := by simp [cmpI, h]
theorem cmpI_gt {a b : Nat} (h : b < a) : cmpI a b = 1 := by rw [cmpI, if_neg (by omega), if_pos h]
theorem cmpI_eq {a b : Nat} (h : a = b) : cmpI a b = 0 := by subst h; simp [cmpI]

/-- The outcome: the order of two numbers; the world has but drawn. -/
def RetCmp (a b : Nat) (w : World) (e : Ending) (w' : World) : Prop := e = .returned (.int .i64 (cmpI a b)) ∧ Dr w w'

set_option maxHeartbeats 400000 in
/-- digits.cmp -/
theorem cmp_any (va vb : Value) (a b : Nat) (w : World) (ha : Dg w va a) (hb : Dg w vb b) :
    Calls Try.prog 97 #[va, vb] w (RetCmp a b w) := by
  obtain ⟨A, ca, rfl, ha1, ha2, ha3⟩ := id ha
  obtain ⟨B, cb, rfl, hb1, hb2, hb3⟩ := id hb
  have hm : (dg a).length ≤ 9223372036854775807 := Nat.le_trans ha1 (by unfold maxLen at ha2; exact ha2)
  have hm2 : (dg b).length ≤ 9223372036854775807 := Nat.le_trans hb1 (by unfold maxLen at hb2; exact hb2)
  have ha := Lib.hid ha
  have hb := Lib.hid hb
  have ha3 := Lib.hid ha3
  have hb3 := Lib.hid hb3
  by_cases hne : (dg a).length = (dg b).length
  · by_cases h0 : (dg a).length = 0
    · have e1 : a = 0 := (dg_len_zero a).1 h0
      have e2 : b = 0 := (dg_len_zero b).1 (hne ▸ h0)
      subst e1 e2
      clear hne h0
      simp only [dg_zero, List.length_nil]
      go_enter Try.func97, Try.ntmps97
      go_wp2
      refine wp_loop_rounds 1 ?_
      rw [rounds_succ]
      go_wp2
      go_ret
      exact ⟨rfl, Dr.refl _⟩
    · obtain ⟨ga, oa, ca, La, ea, -, -, hA, hLa⟩ := ha.out.open_ (fun e => h0 (by rw [e]; rfl))
      obtain ⟨gb, ob, cb, Lb, eb, -, -, hB, hLb⟩ := hb.out.open_ (fun e => h0 (by rw [hne, e]; rfl))
      injection ea with ea1 _ ea2
      injection eb with eb1 _ eb2
      subst ea1 ea2 eb1 eb2
      rw [← hne]
      have HN := Lib.hid hne
      clear hne
      obtain ⟨n, hn⟩ : ∃ n, n = (dg a).length := ⟨_, rfl⟩
      rw [← hn] at hm ⊢
      have HL := Lib.hid hn
      have hpos : 0 < n := by omega
      clear hn h0 hm2
      go_enter Try.func97, Try.ntmps97
      go_wp2
      go_loopw [5] (fun i wr => ∃ k : Nat, i = .int .i64 ((k : Int) - 1) ∧ k ≤ n ∧ (dg a).drop k = (dg b).drop k ∧ Dr w wr) (fun i _ => (intOf i + 1).toNat)
      case atStart => exact ⟨n, rfl, Nat.le_refl _, by rw [HL.out, List.drop_length, HN.out, List.drop_length], Dr.refl _⟩
      case round =>
        obtain ⟨k, rfl, hk, hd, m, rfl⟩ := hrel
        have HD := Lib.hid hd
        clear hd
        by_cases h0 : 0 < k
        · obtain ⟨x, hx⟩ : ∃ x, (dg a)[k - 1]? = some x := ⟨_, List.getElem?_eq_getElem (by rw [← HL.out]; omega)⟩
          obtain ⟨y, hy⟩ : ∃ y, (dg b)[k - 1]? = some y := ⟨_, List.getElem?_eq_getElem (by rw [← HN.out, ← HL.out]; omega)⟩
          have hcx : w.cell? ⟨ga, oa + (k - 1), none⟩ = some (.int .u32 (x : Int)) := hA.cell (hLa _ _ hx)
          have hcy : w.cell? ⟨gb, ob + (k - 1), none⟩ = some (.int .u32 (y : Int)) := hB.cell (hLb _ _ hy)
          have hk1 : (0 : Int) ≤ (k : Int) - 1 := by omega
          have hk2 : (k : Int) - 1 < (n : Int) := by omega
          have HX := Lib.hid hx
          have HY := Lib.hid hy
          clear hx hy
          have HLT : Hid (x < y → a < b) := Lib.hid fun h => by
            have := val_lt_of_digit (sm_dg a) (k := k - 1) (by rw [show k - 1 + 1 = k by omega]; exact HD.out) HX.out HY.out h
            rwa [val_dg, val_dg] at this
          have HGT : Hid (y < x → b < a) := Lib.hid fun h => by
            have := val_lt_of_digit (sm_dg b) (k := k - 1) (by rw [show k - 1 + 1 = k by omega]; exact HD.out.symm) HY.out HX.out h
            rwa [val_dg, val_dg] at this
          have HEQ : Hid (x = y → (dg a).drop (k - 1) = (dg b).drop (k - 1)) := Lib.hid fun h => by
            have l1 : k - 1 < (dg a).length := by rw [← HL.out]; omega
            have l2 : k - 1 < (dg b).length := by rw [← HN.out, ← HL.out]; omega
            have e1 : (dg a)[k - 1] = x := by have := HX.out; rw [List.getElem?_eq_getElem l1] at this; exact Option.some.inj this
            have e2 : (dg b)[k - 1] = y := by have := HY.out; rw [List.getElem?_eq_getElem l2] at this; exact Option.some.inj this
            rw [List.drop_eq_getElem_cons l1, List.drop_eq_getElem_cons l2, e1, e2, h, show k - 1 + 1 = k by omega, HD.out]
          rcases Nat.lt_trichotomy x y with hlt | heq | hgt
          · have t1 : ((x : Int) != (y : Int)) = true := by rw [bne_iff_ne]; omega
            have t2 : ((x : Int) < (y : Int)) := by omega
            go_wp2
            go_quiet (fail)
            go_wp2
            go_quiet (fail)
            go_wp2
            go_ret
            exact ⟨by rw [cmpI_lt (HLT.out hlt)]; rfl, by repeat (first | exact Dr.refl _ | apply Dr.drewN)⟩
          · have HE2 := Lib.hid (HEQ.out heq)
            subst heq
            go_wp2
            go_quiet (fail)
            go_wp2
            go_roundw
            case rel => exact ⟨k - 1, by go_num, by omega, HE2.out, by repeat (first | exact Dr.refl _ | apply Dr.drewN)⟩
            case measure => simp [intOf]; omega
          · have t1 : ((x : Int) != (y : Int)) = true := by rw [bne_iff_ne]; omega
            have t2 : ((y : Int) < (x : Int)) := by omega
            go_wp2
            go_quiet (fail)
            go_wp2
            go_quiet (fail)
            go_wp2
            go_ret
            exact ⟨by rw [cmpI_gt (HGT.out hgt)]; rfl, by repeat (first | exact Dr.refl _ | apply Dr.drewN)⟩
        · obtain rfl : k = 0 := by omega
          have HE : Hid (a = b) := Lib.hid (by
            have := HD.out
            simp only [List.drop_zero] at this
            have := congrArg val this
            rwa [val_dg, val_dg] at this)
          go_wp2
          go_ret
          exact ⟨by rw [cmpI_eq HE.out]; rfl, (Dr.refl _).drewN _⟩
  · have hne' : (((dg a).length : Int) != ((dg b).length : Int)) = true := by rw [bne_iff_ne]; omega
    rcases Nat.lt_or_ge (dg a).length (dg b).length with h | h
    · have HC : Hid (cmpI a b = -1) := Lib.hid (cmpI_lt (lt_of_len h))
      go_enter Try.func97, Try.ntmps97
      go_wp2
      go_ret
      exact ⟨by rw [HC.out]; rfl, Dr.refl _⟩
    · have h' : (dg b).length < (dg a).length := by omega
      have HC : Hid (cmpI a b = 1) := Lib.hid (cmpI_gt (lt_of_len h'))
      go_enter Try.func97, Try.ntmps97
      go_wp2
      go_ret
      exact ⟨by rw [HC.out]; rfl, Dr.refl _⟩
end Go.Proofs.Ytciafmnideihjaa
