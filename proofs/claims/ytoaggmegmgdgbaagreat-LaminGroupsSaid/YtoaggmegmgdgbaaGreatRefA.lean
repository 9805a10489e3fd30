import Derived.Test.YtoaggmegmgdgbaaGreatAngN
import Derived.BigQuiet
import Derived.Deep.CutBlock
import Derived.Test.YtoaggmegmgdgbaaGreatAngH
import Derived.Lib.QuietBelow
namespace Go.Proofs.YtoaggmegmgdgbaaGreat
open Go.RowKit
set_option maxHeartbeats 400000 in
theorem rmay_any (s : ByteArray) (w : World) (hs : s.size ≤ 9223372036854775807) :
    Calls Tryz.prog 113 #[.string s] w fun e w' => e = .returned (.bool (mayB s)) ∧ w = w' := by
  by_cases h1 : 16384 < s.size
  · have h1i : ¬ (s.size : Int) ≤ 16384 := by omega
    have hm : Hid (mayB s = false) := Lib.hid (by simp [mayB]; omega)
    go_enter Tryz.func113, Tryz.ntmps113
    go_wp2_with fail
    go_ret
    exact ⟨by rw [hm.out]; rfl, rfl⟩
  · have h1i : (s.size : Int) ≤ 16384 := by omega
    by_cases h2 : s.size = 0
    · have ht : s.toList = [] := (toList_nil_iff s).2 h2
      have hm : Hid (mayB s = true) := Lib.hid (by
        have : sl s = [] := List.eq_nil_of_length_eq_zero (by rw [sl_len]; exact h2)
        simp [mayB, this]; omega)
      clear h2
      go_enter Tryz.func113, Tryz.ntmps113
      go_wp2_with fail
      go_ret
      exact ⟨by rw [hm.out]; rfl, rfl⟩
    · have ht : ¬ s.toList = [] := fun e => h2 ((toList_nil_iff s).1 e)
      have hp : 0 < s.size := by omega
      have hhd : (sl s).head? = some (s[0]'hp).toNat := by rw [List.head?_eq_getElem?]; exact sl_get s 0 hp
      have hm : Hid (mayB s = (s.toList.isEmpty || ((s[0]'hp).toNat : Int) != 0)) := Lib.hid (by
        rw [Bool.eq_iff_iff]; simp [mayB, hhd, ht]; omega)
      clear hhd h2
      go_enter Tryz.func113, Tryz.ntmps113
      go_wp2_with fail
      go_ret
      exact ⟨by rw [hm.out]; rfl, rfl⟩
set_option maxHeartbeats 400000 in
theorem rsmall_any (s : ByteArray) (w : World) (hs : s.size ≤ 9223372036854775807) :
    Calls Tryz.prog 73 #[.string s] w fun e w' => e = .returned (.tuple #[.int .u64 ((if smallB s then be (sl s) else 0 : Nat) : Int), .bool (smallB s)]) ∧ w = w' := by
  obtain ⟨r, hr⟩ : ∃ r : Value, r = .tuple #[.int .u64 ((if smallB s then be (sl s) else 0 : Nat) : Int), .bool (smallB s)] := ⟨_, rfl⟩
  rw [← hr]
  cases hm : mayB s
  · have hv : Hid (r = .tuple #[.int .u64 0, .bool false]) := Lib.hid (by rw [hr]; simp [smallB, hm])
    replace hm := Lib.hid hm
    clear hr
    go_enter Tryz.func73, Tryz.ntmps73
    go_wp2_with fail
    refine (rmay_any s w hs).mono ?_
    rintro e w1 ⟨rfl, rfl⟩
    rw [hm.out]
    go_wp2_with fail
    go_ret2
    exact ⟨by rw [hv.out]; rfl, rfl⟩
  · by_cases h8 : 8 < s.size
    · have hv : Hid (r = .tuple #[.int .u64 0, .bool false]) := Lib.hid (by rw [hr, show smallB s = false by simp [smallB, hm]; omega]; rfl)
      have h8i : (8 : Int) < (s.size : Int) := by omega
      replace hm := Lib.hid hm
      clear hr
      go_enter Tryz.func73, Tryz.ntmps73
      go_wp2_with fail
      refine (rmay_any s w hs).mono ?_
      rintro e w1 ⟨rfl, rfl⟩
      rw [hm.out]
      go_wp2_with fail
      go_ret2
      exact ⟨by rw [hv.out]; rfl, rfl⟩
    · have hv : Hid (r = .tuple #[.int .u64 ((be (sl s) : Nat) : Int), .bool true]) := Lib.hid (by rw [hr, show smallB s = true by simp [smallB, hm]; omega]; rfl)
      have h8i : ¬ (8 : Int) < (s.size : Int) := by omega
      replace hm := Lib.hid hm
      clear hr
      go_enter Tryz.func73, Tryz.ntmps73
      go_wp2_with fail
      refine (rmay_any s w hs).mono ?_
      rintro e w1 ⟨rfl, rfl⟩
      rw [hm.out]
      go_wp2_with fail
      go_loop [4, 5] (fun x i => ∃ k : Nat, i = .int .i64 (k : Int) ∧ k ≤ s.size ∧ x = .int .u64 ((be ((sl s).take k) : Nat) : Int)) (fun _ i => s.size - (intOf i).toNat)
      case atStart => exact ⟨0, rfl, Nat.zero_le _, rfl⟩
      case round =>
        obtain ⟨k, rfl, hk, rfl⟩ := hrel
        obtain ⟨V, hV⟩ : ∃ V, V = be ((sl s).take k) := ⟨_, rfl⟩
        rw [← hV]
        by_cases h0 : k < s.size
        · have hb := be_take_succ (sl_get s k h0)
          have hlt := be_lt (l := (sl s).take (k + 1)) (fun x hx => sl_lt s x (List.mem_of_mem_take hx))
          rw [hb, ← hV, List.length_take, sl_len] at hlt
          rw [← hV] at hb
          have hlt2 : 256 * V + (s[k]'h0).toNat < 18446744073709551616 := by
            refine Nat.lt_of_lt_of_le hlt ?_
            refine Nat.le_trans (Nat.pow_le_pow_right (by omega) (show min (k + 1) s.size ≤ 8 by omega)) (by decide)
          obtain ⟨c, hc⟩ : ∃ c, c = (s[k]'h0).toNat := ⟨_, rfl⟩
          have hci : ((s[k]'h0).toNat : Int) = (c : Int) := by rw [hc]
          rw [← hc] at hb hlt2
          have hkI : (k : Int) < (s.size : Int) := by omega
          replace hb := Lib.hid hb
          clear hlt hc hV
          go_wp2_with fail
          go_round
          case rel => exact ⟨k + 1, by go_num, by omega, by rw [hb.out]; go_num⟩
          case measure => simp [intOf]; omega
        · have hke : k = s.size := by omega
          have hVe : Hid (V = be (sl s)) := Lib.hid (by rw [hV, hke, ← sl_len, List.take_length])
          have hkI : ¬ (k : Int) < (s.size : Int) := by omega
          clear hV
          go_wp2_with fail
          go_ret2
          exact ⟨by rw [hv.out, hVe.out]; rfl, rfl⟩
set_option maxHeartbeats 400000 in
theorem rgcd_any (a b : Nat) (w : World) (ha : a < 18446744073709551616) (hb : b < 18446744073709551616) :
    Calls Tryz.prog 74 #[.int .u64 a, .int .u64 b] w (RetW (Nat.gcd a b) w) := by
  go_enter Tryz.func74, Tryz.ntmps74
  go_wp2
  go_loopw [0, 1] (fun x y wr => ∃ p q : Nat, x = .int .u64 p ∧ y = .int .u64 q ∧ Nat.gcd p q = Nat.gcd a b ∧ p < 18446744073709551616 ∧ q < 18446744073709551616 ∧ Dr w wr) (fun _ y _ => (intOf y).toNat)
  case atStart => exact ⟨a, b, rfl, rfl, rfl, ha, hb, Dr.refl _⟩
  case round =>
    obtain ⟨p, q, rfl, rfl, hg, hp, hq, n, rfl⟩ := hrel
    have Hg := Lib.hid hg
    clear hg
    by_cases hz : q = 0
    · subst hz
      go_wp2
      go_ret
      exact ⟨by rw [← Hg.out, Nat.gcd_zero_right]; rfl, (Dr.refl _).drewN _⟩
    · have hz1 : 0 < q := by omega
      have hm := Nat.mod_lt p hz1
      obtain ⟨r, hr⟩ : ∃ r, r = p % q := ⟨_, rfl⟩
      have hri : (p : Int) % (q : Int) = (r : Int) := by rw [hr]; rfl
      rw [← hr] at hm
      have HR : Hid (Nat.gcd q r = Nat.gcd a b) := Lib.hid (by rw [← Hg.out, hr, Nat.gcd_comm q, ← Nat.gcd_rec, Nat.gcd_comm])
      clear hz hr
      go_wp2
      go_quiet (fail)
      go_wp2
      go_roundw
      case rel => exact ⟨q, r, rfl, by rw [hri], HR.out, hq, by omega, by repeat (first | exact Dr.refl _ | apply Dr.drewN)⟩
      case measure => simp [intOf]; omega
set_option maxRecDepth 100000 in
set_option maxHeartbeats 400000 in
theorem rcmp_any (a b c d x y : Nat) (w : World) (hx : Hid (x = a * d)) (hy : Hid (y = c * b)) (hxs : x < 18446744073709551616) (hys : y < 18446744073709551616) :
    Calls Tryz.prog 64 #[.agg #[.int .u64 (a : Int), .int .u64 (b : Int)], .agg #[.int .u64 (c : Int), .int .u64 (d : Int)]] w (RetVal (.int .i64 (cmpN x y)) w) := by
  have hxi : (a : Int) * (d : Int) = (x : Int) := by rw [hx.out]; push_cast; rfl
  have hyi : (c : Int) * (b : Int) = (y : Int) := by rw [hy.out]; push_cast; rfl
  have w1 : IntKind.u64.wrap (x : Int) = (x : Int) := by rw [IntKind.wrap_u64]; omega
  have w2 : IntKind.u64.wrap (y : Int) = (y : Int) := by rw [IntKind.wrap_u64]; omega
  have hBW : Hid (Below w.heap.size w ((w.alloc (.cells #[.int .u64 (a : Int), .int .u64 (b : Int)] 42)).alloc (.cells #[.int .u64 (c : Int), .int .u64 (d : Int)] 42))) := Lib.hid (((Below.refl _ w).alloc (Nat.le_refl _) _).alloc (by simp) _)
  by_cases h1 : x < y
  · have hv : Hid (cmpN x y = -1) := Lib.hid (by simp [cmpN, h1])
    have h1I : (x : Int) < (y : Int) := by omega
    go_enter Tryz.func64, Tryz.ntmps64
    go_wp2_with fail
    go_quiet (fail)
    go_wp2_with fail
    go_ret
    exact ⟨by rw [hv.out]; rfl, by first | exact hBW.out | exact below_drewN hBW.out _⟩
  · by_cases h2 : y < x
    · have hv : Hid (cmpN x y = 1) := Lib.hid (by simp [cmpN, h1, h2])
      have h1I : ¬ (x : Int) < (y : Int) := by omega
      have h2I : (y : Int) < (x : Int) := by omega
      go_enter Tryz.func64, Tryz.ntmps64
      go_wp2_with fail
      go_quiet (fail)
      go_wp2_with fail
      go_ret
      exact ⟨by rw [hv.out]; rfl, by first | exact hBW.out | exact below_drewN hBW.out _⟩
    · have hv : Hid (cmpN x y = 0) := Lib.hid (by simp [cmpN, h1, h2])
      have h1I : ¬ (x : Int) < (y : Int) := by omega
      have h2I : ¬ (y : Int) < (x : Int) := by omega
      go_enter Tryz.func64, Tryz.ntmps64
      go_wp2_with fail
      go_quiet (fail)
      go_wp2_with fail
      go_ret
      exact ⟨by rw [hv.out]; rfl, by first | exact hBW.out | exact below_drewN hBW.out _⟩
open Go.RowKit
theorem okA_ref (neg : Bool) (num den : ByteArray) :
    okA neg num den = (smallB num && smallB den && !neg && decide (1 ≤ be (sl den)) && decide (be (sl den) ≤ 2147483647) && decide (be (sl num) < be (sl den)) && decide (Nat.gcd (be (sl num)) (be (sl den)) = 1)) := by
  rw [Bool.eq_iff_iff]
  simp only [okA, ratioMay, smallB, Bool.and_eq_true, Bool.or_eq_true, decide_eq_true_eq, Bool.not_eq_true']
  constructor
  · rintro ⟨⟨⟨⟨⟨⟨⟨⟨⟨h1, h2⟩, h3⟩, h4⟩, -⟩, h5⟩, -, h6⟩, -, h7⟩, h8⟩, h9⟩
    exact ⟨⟨⟨⟨⟨⟨⟨h1, h6⟩, h2, h7⟩, h5⟩, h3⟩, h9⟩, h8⟩, h4⟩
  · rintro ⟨⟨⟨⟨⟨⟨⟨h1, h6⟩, h2, h7⟩, h5⟩, h3⟩, h9⟩, h8⟩, h4⟩
    exact ⟨⟨⟨⟨⟨⟨⟨⟨⟨h1, h2⟩, h3⟩, h4⟩, Or.inl h5⟩, h5⟩, h1, h6⟩, h2, h7⟩, h8⟩, h9⟩
set_option maxRecDepth 100000 in
set_option maxHeartbeats 2000000 in
theorem rof_any (neg : Bool) (num den : ByteArray) (w : World) (z1 : num.size ≤ 9223372036854775807) (z2 : den.size ≤ 9223372036854775807) :
    Calls Tryz.prog 24 #[.agg #[.bool neg, .string num, .string den]] w (RetVal (smallV neg num den) w) := by
  have hq := okA_ref neg num den
  have hv0 : okA neg num den = false → smallV neg num den = .tuple #[.agg #[.int .u64 0, .int .u64 0], .bool false] := smallV_no
  have hv1 : okA neg num den = true → smallV neg num den = .tuple #[.agg #[.int .u64 ((be (sl num) : Nat) : Int), .int .u64 ((be (sl den) : Nat) : Int)], .bool true] := smallV_yes
  obtain ⟨b1, h1⟩ : ∃ b, b = smallB num := ⟨_, rfl⟩
  obtain ⟨b2, h2⟩ : ∃ b, b = smallB den := ⟨_, rfl⟩
  obtain ⟨X, hX⟩ : ∃ X, X = (if b1 then be (sl num) else 0) := ⟨_, rfl⟩
  obtain ⟨Y, hY⟩ : ∃ Y, Y = (if b2 then be (sl den) else 0) := ⟨_, rfl⟩
  have hXs : X < 18446744073709551616 := by
    rw [hX]; split
    · exact be_small (by rw [← h1]; assumption)
    · omega
  have hYs : Y < 18446744073709551616 := by
    rw [hY]; split
    · exact be_small (by rw [← h2]; assumption)
    · omega
  have c1 : Calls Tryz.prog 73 #[.string num] ((w.alloc (.cells #[.bool neg, .string num, .string den] 26)).alloc (.cells #[.int .u64 0, .int .u64 0] 42)) fun e w' => e = .returned (.tuple #[.int .u64 (X : Int), .bool b1]) ∧ ((w.alloc (.cells #[.bool neg, .string num, .string den] 26)).alloc (.cells #[.int .u64 0, .int .u64 0] 42)) = w' := by
    rw [hX, h1]; exact rsmall_any num _ z1
  have c2 : Calls Tryz.prog 73 #[.string den] ((w.alloc (.cells #[.bool neg, .string num, .string den] 26)).alloc (.cells #[.int .u64 0, .int .u64 0] 42)) fun e w' => e = .returned (.tuple #[.int .u64 (Y : Int), .bool b2]) ∧ ((w.alloc (.cells #[.bool neg, .string num, .string den] 26)).alloc (.cells #[.int .u64 0, .int .u64 0] 42)) = w' := by
    rw [hY, h2]; exact rsmall_any den _ z2
  have hBW : Below w.heap.size w ((w.alloc (.cells #[.bool neg, .string num, .string den] 26)).alloc (.cells #[.int .u64 0, .int .u64 0] 42)) := ((Below.refl _ w).alloc (Nat.le_refl _) _).alloc (by simp) _
  rw [← h1, ← h2] at hq
  have hsplit : (b1 = false ∨ b1 = true ∧ b2 = false ∨ b1 = true ∧ b2 = true ∧ neg = true ∨ b1 = true ∧ b2 = true ∧ neg = false ∧ Y < 1 ∨ b1 = true ∧ b2 = true ∧ neg = false ∧ 1 ≤ Y ∧ 2147483647 < Y ∨ b1 = true ∧ b2 = true ∧ neg = false ∧ 1 ≤ Y ∧ Y ≤ 2147483647 ∧ Y ≤ X) ∨
      b1 = true ∧ b2 = true ∧ neg = false ∧ 1 ≤ Y ∧ Y ≤ 2147483647 ∧ X < Y := by
    cases b1 <;> cases b2 <;> cases neg <;> simp <;> omega
  have hg : b1 = true ∧ b2 = true ∧ neg = false ∧ 1 ≤ Y ∧ Y ≤ 2147483647 ∧ X < Y → (∀ G, G = Nat.gcd X Y → okA neg num den = decide (G = 1)) ∧ X = be (sl num) ∧ Y = be (sl den) := by
    rintro ⟨e1, e2, e3, e4, e5, e6⟩
    rw [e1] at hX
    rw [e2] at hY
    simp only [if_true] at hX hY
    refine ⟨fun G hG => ?_, hX, hY⟩
    rw [hq, e1, e2, e3, ← hX, ← hY, hG]
    simp [e4, e5, e6]
  have hn : (b1 = false ∨ b1 = true ∧ b2 = false ∨ b1 = true ∧ b2 = true ∧ neg = true ∨ b1 = true ∧ b2 = true ∧ neg = false ∧ Y < 1 ∨ b1 = true ∧ b2 = true ∧ neg = false ∧ 1 ≤ Y ∧ 2147483647 < Y ∨ b1 = true ∧ b2 = true ∧ neg = false ∧ 1 ≤ Y ∧ Y ≤ 2147483647 ∧ Y ≤ X) → okA neg num den = false := by
    intro h
    rw [hq]
    rcases h with h | ⟨h, h'⟩ | ⟨h, h', h''⟩ | ⟨h, h', h'', h3⟩ | ⟨h, h', h'', h3, h4⟩ | ⟨h, h', h'', h3, h4, h5⟩
    · rw [h]; rfl
    · rw [h, h']; rfl
    · rw [h, h', h'']; rfl
    · rw [h'] at hY; simp only [if_true] at hY
      rw [← hY]; have : ¬ 1 ≤ Y := by omega
      simp [this]
    · rw [h'] at hY; simp only [if_true] at hY
      rw [← hY]; have : ¬ Y ≤ 2147483647 := by omega
      simp [this]
    · rw [h'] at hY; simp only [if_true] at hY
      rw [h] at hX; simp only [if_true] at hX
      rw [← hY, ← hX]; have : ¬ X < Y := by omega
      simp [this]
  replace hv0 := Lib.hid hv0
  replace hv1 := Lib.hid hv1
  replace hg := Lib.hid hg
  replace hn := Lib.hid hn
  replace hBW := Lib.hid hBW
  clear h1 h2 hX hY hq
  rcases hsplit with hs | hs
  · have hv := Lib.hid (hv0.out (hn.out hs))
    clear hn hg hv0 hv1
    go_enter Tryz.func24, Tryz.ntmps24
    go_wp2_with fail
    refine c1.mono ?_
    rintro e w1 ⟨rfl, rfl⟩
    go_wp2_with fail
    refine c2.mono ?_
    rintro e w1 ⟨rfl, rfl⟩
    clear c1 c2
    rcases hs with rfl | ⟨rfl, rfl⟩ | ⟨rfl, rfl, rfl⟩ | ⟨rfl, rfl, rfl, h3⟩ | ⟨rfl, rfl, rfl, h3, h4⟩ | ⟨rfl, rfl, rfl, h3, h4, h5⟩
    · go_wp2_with fail
      refine bodyPost_ret (v := .tuple #[.agg #[.int .u64 0, .int .u64 0], .bool false]) (by simp [results, Tryz.results24, go_sem]) rfl ⟨by rw [hv.out], ?_⟩
      repeat (first | exact Below.refl _ _ | apply Below.drew | refine Below.setCell ?_ (by simp) _ | refine Below.alloc ?_ (by simp) _)
    · go_wp2_with fail
      refine bodyPost_ret (v := .tuple #[.agg #[.int .u64 0, .int .u64 0], .bool false]) (by simp [results, Tryz.results24, go_sem]) rfl ⟨by rw [hv.out], ?_⟩
      repeat (first | exact Below.refl _ _ | apply Below.drew | refine Below.setCell ?_ (by simp) _ | refine Below.alloc ?_ (by simp) _)
    · go_wp2_with fail
      refine bodyPost_ret (v := .tuple #[.agg #[.int .u64 0, .int .u64 0], .bool false]) (by simp [results, Tryz.results24, go_sem]) rfl ⟨by rw [hv.out], ?_⟩
      repeat (first | exact Below.refl _ _ | apply Below.drew | refine Below.setCell ?_ (by simp) _ | refine Below.alloc ?_ (by simp) _)
    · have i3 : decide (1 ≤ (Y : Int)) = false := by simp; omega
      go_wp2_with fail
      refine bodyPost_ret (v := .tuple #[.agg #[.int .u64 0, .int .u64 0], .bool false]) (by simp [results, Tryz.results24, go_sem]) rfl ⟨by rw [hv.out], ?_⟩
      repeat (first | exact Below.refl _ _ | apply Below.drew | refine Below.setCell ?_ (by simp) _ | refine Below.alloc ?_ (by simp) _)
    · have i3 : decide (1 ≤ (Y : Int)) = true := by simp; omega
      have i4 : decide ((Y : Int) ≤ 2147483647) = false := by simp; omega
      go_wp2_with fail
      refine bodyPost_ret (v := .tuple #[.agg #[.int .u64 0, .int .u64 0], .bool false]) (by simp [results, Tryz.results24, go_sem]) rfl ⟨by rw [hv.out], ?_⟩
      repeat (first | exact Below.refl _ _ | apply Below.drew | refine Below.setCell ?_ (by simp) _ | refine Below.alloc ?_ (by simp) _)
    · have i3 : decide (1 ≤ (Y : Int)) = true := by simp; omega
      have i4 : decide ((Y : Int) ≤ 2147483647) = true := by simp; omega
      have i5 : decide ((X : Int) < (Y : Int)) = false := by simp; omega
      go_wp2_with fail
      refine bodyPost_ret (v := .tuple #[.agg #[.int .u64 0, .int .u64 0], .bool false]) (by simp [results, Tryz.results24, go_sem]) rfl ⟨by rw [hv.out], ?_⟩
      repeat (first | exact Below.refl _ _ | apply Below.drew | refine Below.setCell ?_ (by simp) _ | refine Below.alloc ?_ (by simp) _)
  · obtain ⟨eo, eX, eY⟩ := hg.out hs
    obtain ⟨rfl, rfl, rfl, h3, h4, h5⟩ := hs
    obtain ⟨G, hG⟩ : ∃ G, G = Nat.gcd X Y := ⟨_, rfl⟩
    replace eo := eo G hG
    have i3 : decide (1 ≤ (Y : Int)) = true := by simp; omega
    have i4 : decide ((Y : Int) ≤ 2147483647) = true := by simp; omega
    have i5 : decide ((X : Int) < (Y : Int)) = true := by simp; omega
    have kb := (Blk.new w 26 #[.bool false, .string num, .string den]).alloc (.cells #[.int .u64 0, .int .u64 0] 42)
    have ka := Blk.new (w.alloc (.cells #[.bool false, .string num, .string den] 26)) 42 #[.int .u64 0, .int .u64 0]
    rw [show (w.alloc (.cells #[.bool false, .string num, .string den] 26)).heap.size = w.heap.size + 1 by simp] at ka
    replace ka := Lib.hid ka
    by_cases hG1 : G = 1
    · have hv := hv1.out (by rw [eo]; simp [hG1])
      rw [← eX, ← eY] at hv
      replace hv := Lib.hid hv
      replace hG := Lib.hid hG
      have hGi : (G : Int) = 1 := by omega
      clear hv0 hv1 eo eX eY kb hg hn
      go_enter Tryz.func24, Tryz.ntmps24
      go_wp2_with fail
      refine c1.mono ?_
      rintro e w1 ⟨rfl, rfl⟩
      go_wp2_with fail
      refine c2.mono ?_
      rintro e w1 ⟨rfl, rfl⟩
      clear c1 c2
      go_wp2_with fail
      refine (rgcd_any X Y _ hXs hYs).mono ?_
      rintro e w2 ⟨rfl, nd, rfl⟩
      rw [← hG.out, hG1]
      go_wp2_with fail
      refine bodyPost_ret (v := .tuple #[.agg #[.int .u64 (X : Int), .int .u64 (Y : Int)], .bool true]) (by simp [results, Tryz.results24, go_sem]) rfl ⟨by rw [hv.out], ?_⟩
      repeat (first | exact Below.refl _ _ | apply Below.drew | refine below_drewN ?_ _ | refine Below.setCell ?_ (by simp) _ | refine Below.alloc ?_ (by simp) _)
    · have hv := Lib.hid (hv0.out (by rw [eo]; simp [hG1]))
      replace hG := Lib.hid hG
      have hGi : ((G : Int) == 1) = false := by simp; omega
      clear hv0 hv1 eo eX eY kb hg hn
      go_enter Tryz.func24, Tryz.ntmps24
      go_wp2_with fail
      refine c1.mono ?_
      rintro e w1 ⟨rfl, rfl⟩
      go_wp2_with fail
      refine c2.mono ?_
      rintro e w1 ⟨rfl, rfl⟩
      clear c1 c2
      go_wp2_with fail
      refine (rgcd_any X Y _ hXs hYs).mono ?_
      rintro e w2 ⟨rfl, nd, rfl⟩
      rw [← hG.out]
      go_wp2_with fail
      refine bodyPost_ret (v := .tuple #[.agg #[.int .u64 0, .int .u64 0], .bool false]) (by simp [results, Tryz.results24, go_sem]) rfl ⟨by rw [hv.out], ?_⟩
      repeat (first | exact Below.refl _ _ | apply Below.drew | refine below_drewN ?_ _ | refine Below.setCell ?_ (by simp) _ | refine Below.alloc ?_ (by simp) _)
open Go.RowKit
theorem be_zero_cons (l : List Nat) : be (0 :: l) = be l := by simp [be]
theorem take_succ_rev {l : List Nat} {k x : Nat} (h : l[k]? = some x) : (l.take (k + 1)).reverse = x :: (l.take k).reverse := by
  have hlt := lt_of_getElem? h
  have e : l[k] = x := by rw [List.getElem?_eq_getElem hlt] at h; exact Option.some.inj h
  rw [List.take_succ_eq_append_getElem hlt, e]
  simp
theorem rev_row {l O : List Nat} {n : Nat} (hn : n ≤ l.length) (hO : O.length = n) (h : ∀ t, t < n → O[n - 1 - t]? = l[t]?) : O = (l.take n).reverse := by
  apply List.ext_getElem?
  intro j
  by_cases hj : j < n
  · have h1 := h (n - 1 - j) (by omega)
    rw [show n - 1 - (n - 1 - j) = j by omega] at h1
    have hlen : (l.take n).length = n := by rw [List.length_take]; omega
    rw [h1, List.getElem?_reverse (by rw [hlen]; exact hj), hlen, List.getElem?_take, if_pos (by omega)]
  · rw [List.getElem?_eq_none (by omega), List.getElem?_eq_none (by rw [List.length_reverse, List.length_take]; omega)]
def madeS (l : List Nat) : ByteArray := natS (be l.reverse)
set_option maxRecDepth 100000 in
set_option maxHeartbeats 1000000 in
theorem made_any (v : Value) (l : List Nat) (w : World) (h : Rd .i64 3 w v l) (hs : ∀ x, x ∈ l → x < 256) (hlen : l.length ≤ 1073741824) :
    Calls Tryz.prog 155 #[v] w (RetVal (.string (madeS l)) w) := by
  obtain ⟨A, c, rfl, h1, h2, h3⟩ := id h
  have h := Lib.hid h
  have h3 := Lib.hid h3
  replace hs := Lib.hid hs
  obtain ⟨K, hK⟩ : ∃ K, K = l.length := ⟨_, rfl⟩
  rw [← hK] at h1 hlen ⊢
  have HK := Lib.hid hK
  clear hK
  go_enter Tryz.func155, Tryz.ntmps155
  go_wp2
  go_loop [3] (fun n => ∃ m : Nat, n = .int .i64 (m : Int) ∧ m ≤ K ∧ be (l.take m).reverse = be l.reverse) (fun n => (intOf n).toNat)
  case atStart => exact ⟨K, rfl, Nat.le_refl _, by rw [HK.out, List.take_length]⟩
  case round =>
    obtain ⟨m, rfl, hm, hbe⟩ := hrel
    have hfin : ∀ x, (m = 0 ∨ (l[m - 1]? = some x ∧ x ≠ 0)) → madeS l = ⟨((l.take m).reverse.map UInt8.ofNat).toArray⟩ := by
      intro x hx
      unfold madeS natS
      rw [← hbe, natL_be]
      · intro y hy
        exact hs.out y (List.mem_of_mem_take (List.mem_reverse.1 hy))
      · rcases hx with rfl | ⟨hx, hx0⟩
        · simp
        · rcases Nat.eq_zero_or_pos m with h0 | h0
          · rw [h0]; simp
          · have e := take_succ_rev hx
            rw [show m - 1 + 1 = m by omega] at e
            rw [e]
            simpa using hx0
    replace hbe := Lib.hid hbe
    replace hfin := Lib.hid hfin
    have hrest : True := trivial
    by_cases h0 : 0 < m
    · have h0I : (0 : Int) < (m : Int) := by omega
      obtain ⟨x, hx⟩ : ∃ x, l[m - 1]? = some x := ⟨_, List.getElem?_eq_getElem (by rw [← HK.out]; omega)⟩
      obtain ⟨ga, oa, ca, La, ea, -, -, hAa, hLa⟩ := h.out.open_ (fun e => by have := HK.out; rw [e] at this; simp at this; omega)
      injection ea with ea1 _ ea2
      subst ea1 ea2
      obtain ⟨q, hq⟩ : ∃ q, q = m - 1 := ⟨_, rfl⟩
      have hqi : (m : Int) - 1 = (q : Int) := by omega
      have hmq : m = q + 1 := by omega
      rw [← hq] at hx
      have hcx : w.cell? ⟨ga, oa + q, none⟩ = some (.int .i64 (x : Int)) := hAa.cell (hLa _ _ hx)
      by_cases hx0 : x = 0
      · subst hx0
        have hbe2 : Hid (be (l.take q).reverse = be l.reverse) := Lib.hid (by
          have e := take_succ_rev hx
          rw [← hbe.out, hmq, e, be_zero_cons])
        clear hx hq hfin
        go_wp2
        go_round
        case rel => exact ⟨q, by go_num, by omega, hbe2.out⟩
        case measure => simp [intOf]; omega
      · have hx0I : ((x : Int) == 0) = false := by simp; omega
        have hf := Lib.hid (hfin.out x (Or.inr ⟨by rw [← hq]; exact hx, hx0⟩))
        have hmk := make_u8 m (by omega)
        have hqK : q < K := by omega
        clear hfin hx hq hx0 hmq
        go_wp2
        clear hqi hqK
        have hA0 := Arr.new w .u8 5 (List.replicate m 0)
        have hB0 : Below w.heap.size w (w.alloc (.cells (ivs .u8 (List.replicate m 0)).toArray 5)) := (Below.refl _ _).alloc (Nat.le_refl _) _
        generalize hw0 : w.alloc (.cells (ivs .u8 (List.replicate m 0)).toArray 5) = w0 at hA0 hB0 ⊢
        generalize hg : w.heap.size = g at *
        have HG := Lib.hid hg
        clear hw0 hg hmk hcx hx0I
        go_loopw [5] (fun i wr => ∃ (k : Nat) (O : List Nat), i = .int .i64 (k : Int) ∧ k ≤ m ∧ O.length = m ∧ (∀ x, x ∈ O → x < 256) ∧ (∀ t, t < k → O[m - 1 - t]? = l[t]?) ∧ Arr wr g .u8 5 O ∧ Below g w wr) (fun i _ => m - (intOf i).toNat)
        case atStart => exact ⟨0, _, rfl, Nat.zero_le _, by simp, fun x hx => by rw [List.eq_of_mem_replicate hx]; omega, fun t ht => absurd ht (by omega), hA0, hB0⟩
        case round =>
          obtain ⟨i, O, rfl, hi, hO, hOs, hOv, hA, hB⟩ := hrel
          replace hO := Lib.hid hO
          replace hOs := Lib.hid hOs
          replace hOv := Lib.hid hOv
          by_cases hi0 : i < m
          · obtain ⟨y, hy⟩ : ∃ y, l[i]? = some y := ⟨_, List.getElem?_eq_getElem (by rw [← HK.out]; omega)⟩
            have hys : y < 256 := hs.out y (List.mem_of_getElem? hy)
            have hcy : wr.cell? ⟨ga, oa + i, none⟩ = some (.int .i64 (y : Int)) := (hB.cell (by have := hAa.lt; rw [HG.out] at this; exact this)).trans (hAa.cell (hLa _ _ hy))
            obtain ⟨k, hk⟩ : ∃ k, k = m - 1 - i := ⟨_, rfl⟩
            have hki : (m : Int) - 1 - (i : Int) = (k : Int) := by omega
            have hkL : k < m := by omega
            obtain ⟨z, hz⟩ : ∃ z, O[k]? = some z := ⟨_, List.getElem?_eq_getElem (by rw [hO.out]; exact hkL)⟩
            have hcz : wr.cell? ⟨g, k, none⟩ = some (.int .u8 (z : Int)) := hA.cell hz
            have hfz : wr.frozen? ⟨g, k, none⟩ = false := hA.frozen _
            have HV2 : Hid (∀ t, t < i + 1 → (O.set k y)[m - 1 - t]? = l[t]?) := Lib.hid (fun t ht => by
              by_cases hti : t = i
              · subst hti
                rw [← hk, List.getElem?_set_self (by rw [hO.out]; exact hkL), hy]
              · rw [List.getElem?_set_ne (by omega)]
                exact hOv.out t (by omega))
            have HS2 : Hid (∀ x, x ∈ O.set k y → x < 256) := Lib.hid (fun x hx => by
              rcases List.mem_or_eq_of_mem_set hx with h1 | h1
              · exact hOs.out x h1
              · rw [h1]; exact hys)
            have hym : (y : Int) % 256 = (y : Int) := by omega
            clear hy hz hk
            go_wp2
            go_roundw
            case rel => exact ⟨i + 1, O.set k y, by go_num, by omega, by rw [List.length_set]; exact hO.out, HS2.out, HV2.out, hA.set_ _ _, hB.setCell (Nat.le_refl _) _⟩
            case measure => simp [intOf]; omega
          · obtain rfl : i = m := by omega
            have HO : Hid (O = (l.take i).reverse) := Lib.hid (rev_row (by rw [← HK.out]; omega) hO.out hOv.out)
            have hcv := conv_str wr g O i hA hOs.out 9 Tryz.underlying9
            rw [hO.out] at hcv
            go_wp2
            go_ret
            exact ⟨by rw [hf.out, ← HO.out]; rfl, by rw [HG.out]; exact hB⟩
    · obtain rfl : m = 0 := by omega
      have hf := Lib.hid (hfin.out 0 (Or.inl rfl))
      have hmk : ∀ w : World, (Instr.makeSlice 118 (.int .i64 0) (.int .i64 0)).run Tryz.prog w = .ok (.slice (some ⟨w.heap.size, 0, none⟩) 0 0) (w.alloc (.cells #[] 5)) := fun w => make_u8 0 (by omega) w
      clear hfin hbe
      go_wp2
      have hA0 := Arr.new w .u8 5 []
      have hcv : (convert 118 9 (.slice (some ⟨w.heap.size, 0, none⟩) 0 0)).run Tryz.prog (w.alloc (.cells #[] 5)) = .ok (.string ⟨#[]⟩) (w.alloc (.cells #[] 5)) := conv_str (w.alloc (.cells #[] 5)) w.heap.size [] 0 hA0 (fun x hx => by cases hx) 9 Tryz.underlying9
      go_loop [5] (fun i => i = .int .i64 0) (fun _ => 0)
      case atStart => rfl
      case round =>
        subst hrel
        go_wp2
        go_ret
        exact ⟨by rw [hf.out]; rfl, (Below.refl _ _).alloc (Nat.le_refl _) _⟩
open Go.RowKit Go.Sort
theorem info_int : (Tryz.prog.info? 3).map (fun i => (i.zero, i.size, i.bytes)) = some (some (.int .i64 0), 1, 8) := by kernel_rfl
theorem rd_own {w : World} {base : Nat} {T : TypeId} {k : IntKind} {v : Value} {l : List Nat} (h : w.ownsRow base T 1 v l.length (ivs k l)) : Rd k T w v l := by
  obtain ⟨hl, hc⟩ := h
  rcases hc with ⟨rfl, h0⟩ | ⟨g, cap, cur, rfl, -, hg, hn, hm, -, ht⟩
  · have : l = [] := List.eq_nil_of_length_eq_zero h0
    subst this
    exact Rd.nil_
  · refine ⟨_, cap, rfl, hn, hm, fun _ => ⟨g, 0, fun j => l[j]?, rfl, ⟨cur, (0, 0), hg, fun j x hj => ?_⟩, fun j x hj => by simpa using hj⟩⟩
    replace hj : l[j]? = some x := hj
    have hlt := lt_of_getElem? hj
    have e := ivs_get (k := k) hj
    rw [← ht, Nat.mul_one, List.getElem?_take, if_pos hlt] at e
    simpa using e
theorem be_rev_snoc (L : List Nat) (d : Nat) : be (L ++ [d]).reverse = be L.reverse + 256 ^ L.length * d := by
  rw [List.reverse_append, be_append, List.length_reverse]
  simp [be]
  rw [Nat.mul_comm, Nat.add_comm]
set_option maxRecDepth 100000 in
set_option maxHeartbeats 1000000 in
theorem rnum_any (n0 : Nat) (w : World) (hn0 : n0 < 18446744073709551616) :
    Calls Tryz.prog 112 #[.int .u64 (n0 : Int)] w (RetVal (.string (natS n0)) w) := by
  obtain ⟨i0, hi, hz0, hz1, hz2⟩ := info_parts info_int
  go_enter Tryz.func112, Tryz.ntmps112
  go_wp2
  go_loopw [0, 3] (fun n v wr => ∃ (x : Nat) (L : List Nat), n = .int .u64 (x : Int) ∧ x < 256 ^ (8 - L.length) ∧ L.length ≤ 8 ∧ (∀ y, y ∈ L → y < 256) ∧ be L.reverse + 256 ^ L.length * x = n0 ∧ wr.ownsRow w.heap.size 3 1 v L.length (ivs .i64 L) ∧ Below w.heap.size w wr) (fun n _ _ => (intOf n).toNat)
  case atStart => exact ⟨n0, [], rfl, hn0, Nat.zero_le _, fun y hy => (by cases hy), by simp [be], World.ownsRow_nil _ _ _ _, Below.refl _ _⟩
  case round =>
    obtain ⟨x, L, rfl, hx, hL8, hLs, hbe, hown, hB⟩ := hrel
    have hxs : x < 18446744073709551616 := Nat.lt_of_lt_of_le hx (by
      refine Nat.le_trans (Nat.pow_le_pow_right (by omega) (show 8 - L.length ≤ 8 by omega)) (by decide))
    replace hLs := Lib.hid hLs
    replace hown := Lib.hid hown
    replace hB := Lib.hid hB
    by_cases h0 : 0 < x
    · have h0I : (0 : Int) < (x : Int) := by omega
      have hL7 : L.length < 8 := by
        rcases Nat.lt_or_ge L.length 8 with h | h
        · exact h
        · rw [show 8 - L.length = 0 by omega] at hx; omega
      obtain ⟨q, hq⟩ : ∃ q, q = x / 256 := ⟨_, rfl⟩
      obtain ⟨r, hr⟩ : ∃ r, r = x % 256 := ⟨_, rfl⟩
      have hqi : (x : Int) / 256 = (q : Int) := by omega
      have hri : (x : Int) % 256 = (r : Int) := by omega
      have hr256 : r < 256 := by omega
      have hqx : q < x := by omega
      have hq8 : Hid (q < 256 ^ (8 - (L ++ [r]).length)) := Lib.hid (by
        rw [List.length_append, hq]
        refine Nat.div_lt_of_lt_mul ?_
        rw [show 8 - L.length = (8 - (L.length + [r].length)) + 1 by simp; omega, Nat.pow_succ] at hx
        omega)
      have hbe2 : Hid (be (L ++ [r]).reverse + 256 ^ (L ++ [r]).length * q = n0) := Lib.hid (by
        rw [be_rev_snoc, List.length_append, ← hbe, Nat.add_assoc]
        congr 1
        rw [show L.length + [r].length = L.length + 1 by simp, Nat.pow_succ, Nat.mul_assoc, ← Nat.mul_add]
        congr 1
        omega)
      have hLs2 : Hid (∀ y, y ∈ L ++ [r] → y < 256) := Lib.hid (fun y hy => by
        rcases List.mem_append.1 hy with h | h
        · exact hLs.out y h
        · rw [List.mem_singleton.1 h]; exact hr256)
      obtain ⟨wo, rfl⟩ : ∃ wo : World, wo = wr := ⟨_, rfl⟩
      clear hq hr hx hbe
      go_wp2_with (at_builtin; refine wpList_append_own _ rfl _ _ 139 rfl w.heap.size 3 i0 (.int .i64 0) 1 8 Tryz.underlying139 hi hz0 hz1 hz2 rfl (by decide) _ _ _ rfl (hown.out.alloc _) ⟨wo.heap.size, 0, none⟩ 1 1 [.int .i64 (r : Int)] rfl rfl ?d1 ?d2 ?d3 ?d4 ?d5 ?_)
      case d1 =>
        intro j u hj
        match j, hj with
        | 0, hj => simp at hj; subst hj; simp [Addr.add]
      case d2 => intro u hu; simp at hu; rw [hu]; rfl
      case d3 => unfold maxLen; omega
      case d4 => omega
      case d5 => have := hB.out.size; simp; omega
      intro v' w1 hown' hgrow _
      have hB1 : Below w.heap.size w w1 := (hB.out.alloc hB.out.size _).grown hgrow (by have := hB.out.size; simp; omega) (fun k hk => (hown.out.lt k hk).1)
      have hown2 : w1.ownsRow w.heap.size 3 1 v' (L ++ [r]).length (ivs .i64 (L ++ [r])) := by rw [ivs_append, List.length_append]; exact hown'
      replace hB1 := Lib.hid hB1
      replace hown2 := Lib.hid hown2
      clear hown' hgrow
      go_wp2
      go_roundw
      case rel => exact ⟨q, L ++ [r], by go_num, hq8.out, by rw [List.length_append]; simp; omega, hLs2.out, hbe2.out, hown2.out, hB1.out⟩
      case measure => simp [intOf]; omega
    · obtain rfl : x = 0 := by omega
      have hfin : Hid (madeS L = natS n0) := Lib.hid (by
        unfold madeS
        rw [Nat.mul_zero, Nat.add_zero] at hbe
        rw [hbe])
      clear hbe hx
      go_wp2_with fail
      refine (made_any _ L _ (rd_own hown.out) hLs.out (by omega)).mono ?_
      rintro e w1 ⟨rfl, hb⟩
      rw [hfin.out]
      have hB1 := Lib.hid (hB.out.trans (hb.mono hB.out.size))
      clear hb
      go_wp2
      go_ret
      exact ⟨rfl, hB1.out⟩
set_option maxRecDepth 100000 in
set_option maxHeartbeats 400000 in
theorem rratio_any (n d : Nat) (w : World) (hn : n < 18446744073709551616) (hd : d < 18446744073709551616) :
    Calls Tryz.prog 72 #[.agg #[.int .u64 (n : Int), .int .u64 (d : Int)]] w (RetVal (ratV n d) w) := by
  go_enter Tryz.func72, Tryz.ntmps72
  go_wp2_with fail
  have hK1 := (Blk.new w 42 #[.int .u64 (n : Int), .int .u64 (d : Int)]).alloc (.cells #[.bool false, .string ⟨#[]⟩, .string ⟨#[]⟩] 26)
  have hK2 := Blk.new (w.alloc (.cells #[.int .u64 (n : Int), .int .u64 (d : Int)] 42)) 26 #[.bool false, .string ⟨#[]⟩, .string ⟨#[]⟩]
  have hBW : Below w.heap.size w ((w.alloc (.cells #[.int .u64 (n : Int), .int .u64 (d : Int)] 42)).alloc (.cells #[.bool false, .string ⟨#[]⟩, .string ⟨#[]⟩] 26)) := ((Below.refl _ w).alloc (Nat.le_refl _) _).alloc (by simp) _
  have hsz : (w.alloc (.cells #[.int .u64 (n : Int), .int .u64 (d : Int)] 42)).heap.size = w.heap.size + 1 := by simp
  rw [hsz] at hK2
  replace hK1 := Lib.hid hK1
  replace hK2 := Lib.hid hK2
  replace hBW := Lib.hid hBW
  clear hsz
  go_region_held3 (fun w' => w'.cell? ⟨w.heap.size, 0, none⟩ = some (.int .u64 (n : Int)) ∧ w'.cell? ⟨w.heap.size, 1, none⟩ = some (.int .u64 (d : Int))) (go_keep)
    (first
      | (go_at_call_of 112 (Value.int .u64 (n : Int)); refine (rnum_any n _ hn).mono ?_; rintro e w3 ⟨rfl, hB⟩; have q1 := Blk.below (Blk.drew hK1.out) hB; have q2 := Blk.below (Blk.drew hK2.out) hB; have hBw : Below w.heap.size w w3 := hBW.out.drew.trans (hB.mono (by simp; omega)); have k1 : w3.cell? ⟨w.heap.size, 0, none⟩ = some (.int .u64 (n : Int)) := q1.cell 0; have k2 : w3.cell? ⟨w.heap.size, 1, none⟩ = some (.int .u64 (d : Int)) := q1.cell 1; replace hBw := Lib.hid hBw; replace q1 := Lib.hid q1; replace q2 := Lib.hid q2; clear hB)
      | (go_at_call_of 112 (Value.int .u64 (d : Int)); refine (rnum_any d _ hd).mono ?_; rintro e w4 ⟨rfl, hB⟩; have r1 := Blk.below q1.out hB; have r2 := Blk.below q2.out hB; have hBx : Below w.heap.size w w4 := hBw.out.trans (hB.mono hBw.out.size); have j1 : w4.cell? ⟨w.heap.size, 0, none⟩ = some (.int .u64 (n : Int)) := r1.cell 0; have j2 : w4.cell? ⟨w.heap.size, 1, none⟩ = some (.int .u64 (d : Int)) := r1.cell 1; have i0 : w4.cell? ⟨w.heap.size + 1, 0, none⟩ = some (.bool false) := r2.cell 0; have i1 : w4.cell? ⟨w.heap.size + 1, 1, none⟩ = some (.string ⟨#[]⟩) := r2.cell 1; have i2 : w4.cell? ⟨w.heap.size + 1, 2, none⟩ = some (.string ⟨#[]⟩) := r2.cell 2; have f0 := r2.frozen 0; have f1 := r2.frozen 1; have f2 := r2.frozen 2; replace hBx := Lib.hid hBx; clear r1 r2 hB))
  all_goals
    go_wp2
    refine bodyPost_ret (v := .agg #[.bool false, .string (natS n), .string (natS d)]) (by simp [results, Tryz.results72, go_sem, i0, i1, i2]) rfl ⟨rfl, ?_⟩
    exact ((hBx.out.setCell (p := ⟨w.heap.size + 1, 0, none⟩) (by simp) _).setCell (p := ⟨w.heap.size + 1, 1, none⟩) (by simp) _).setCell (p := ⟨w.heap.size + 1, 2, none⟩) (by simp) _
open Go.RowKit
set_option maxRecDepth 100000 in
set_option maxHeartbeats 400000 in
theorem low_any (a b X n d : Nat) (w : World) (ha : a < 18446744073709551616) (hb : b < 18446744073709551616) (h0 : 0 < b) (hX : Hid (X = a % b)) (hn : Hid (n = X / Nat.gcd X b)) (hd : Hid (d = b / Nat.gcd X b)) :
    Calls Tryz.prog 111 #[.int .u64 a, .int .u64 b] w (RetPart n d w) := by
  have hXb : X < b := by rw [hX.out]; exact Nat.mod_lt _ h0
  have hXi : (a : Int) % (b : Int) = (X : Int) := by rw [hX.out]; rfl
  obtain ⟨g, hg⟩ : ∃ g, g = Nat.gcd X b := ⟨_, rfl⟩
  have hg0 : 0 < g := by rw [hg]; exact Nat.gcd_pos_of_pos_right _ h0
  have hgs : g < 18446744073709551616 := by rw [hg]; exact Nat.lt_of_le_of_lt (Nat.gcd_le_right _ h0) hb
  have e1 : (X : Int) / (g : Int) = (n : Int) := by rw [hn.out, hg]; rfl
  have e2 : (b : Int) / (g : Int) = (d : Int) := by rw [hd.out, hg]; rfl
  have hns : n < 18446744073709551616 := by rw [hn.out]; exact Nat.lt_of_le_of_lt (Nat.div_le_self _ _) (by omega)
  have hds : d < 18446744073709551616 := by rw [hd.out]; exact Nat.lt_of_le_of_lt (Nat.div_le_self _ _) hb
  have hb0 : ¬ (b : Int) = 0 := by omega
  have Hg := Lib.hid hg
  clear hg
  go_enter Tryz.func111, Tryz.ntmps111
  go_wp2_with fail
  refine (rgcd_any X b _ (by omega) hb).mono ?_
  rintro e w1 ⟨rfl, hdr⟩
  rw [← Hg.out]
  have hK := Blk.dr hdr (Blk.new w 42 #[.int .u64 0, .int .u64 0])
  have hB := below_dr hdr ((Below.refl w.heap.size w).alloc (Nat.le_refl _) (.cells #[.int .u64 0, .int .u64 0] 42))
  have k0 := hK.cell 0
  have k1 := hK.cell 1
  have f0 := hK.frozen 0
  have f1 := hK.frozen 1
  simp at k0 k1
  have hB := Lib.hid hB
  have hK := Lib.hid hK
  clear hdr
  go_wp2
  go_region
  go_wp2
  refine bodyPost_ret (v := .agg #[.int .u64 (n : Int), .int .u64 (d : Int)]) (by simp [results, Tryz.results111, go_sem, k0, k1]) rfl ⟨rfl, ?_⟩
  exact ((hB.out.setCell (p := ⟨w.heap.size, 0, none⟩) (Nat.le_refl _) _).setCell (p := ⟨w.heap.size, 1, none⟩) (Nat.le_refl _) _).drew
def rmakeV (num den : Int) : Value :=
  if 1 ≤ den ∧ den ≤ 2147483647 then
    .tuple #[.agg #[.int .u64 (((num % den).toNat / Nat.gcd (num % den).toNat den.toNat : Nat) : Int), .int .u64 ((den.toNat / Nat.gcd (num % den).toNat den.toNat : Nat) : Int)], .int .i64 0]
  else .tuple #[.agg #[.int .u64 0, .int .u64 0], .int .i64 2]
set_option maxRecDepth 100000 in
set_option maxHeartbeats 1000000 in
theorem rmake_any (num den : Int) (w : World) :
    Calls Tryz.prog 97 #[.int .i64 num, .int .i64 den] w (RetVal (rmakeV num den) w) := by
  by_cases h1 : den < 1
  · have hv : Hid (rmakeV num den = .tuple #[.agg #[.int .u64 0, .int .u64 0], .int .i64 2]) := Lib.hid (by
      have : ¬ (1 ≤ den ∧ den ≤ 2147483647) := by omega
      simp [rmakeV, this])
    go_enter Tryz.func97, Tryz.ntmps97
    go_wp2
    refine bodyPost_ret (v := .tuple #[.agg #[.int .u64 0, .int .u64 0], .int .i64 2]) (by simp [results, Tryz.results97, go_sem]) rfl ⟨by rw [hv.out], ?_⟩
    repeat (first | exact Below.refl _ _ | apply Below.drew | refine Below.setCell ?_ (by simp) _ | refine Below.alloc ?_ (by simp) _)
  by_cases h2 : 2147483647 < den
  · have hv : Hid (rmakeV num den = .tuple #[.agg #[.int .u64 0, .int .u64 0], .int .i64 2]) := Lib.hid (by
      have : ¬ (1 ≤ den ∧ den ≤ 2147483647) := by omega
      simp [rmakeV, this])
    go_enter Tryz.func97, Tryz.ntmps97
    go_wp2
    refine bodyPost_ret (v := .tuple #[.agg #[.int .u64 0, .int .u64 0], .int .i64 2]) (by simp [results, Tryz.results97, go_sem]) rfl ⟨by rw [hv.out], ?_⟩
    repeat (first | exact Below.refl _ _ | apply Below.drew | refine Below.setCell ?_ (by simp) _ | refine Below.alloc ?_ (by simp) _)
  obtain ⟨b, rfl⟩ := Int.eq_ofNat_of_zero_le (show 0 ≤ den by omega)
  have hb1 : 0 < b := by omega
  have hbs : b ≤ 2147483647 := by omega
  have hX0 := Int.emod_nonneg num (by omega : (b : Int) ≠ 0)
  have hXb := Int.emod_lt_of_pos num (show (0 : Int) < (b : Int) by omega)
  obtain ⟨X, hX⟩ := Int.eq_ofNat_of_zero_le hX0
  have hXs : X < b := by omega
  obtain ⟨N, hN⟩ : ∃ N, N = X / Nat.gcd X b := ⟨_, rfl⟩
  obtain ⟨D, hD⟩ : ∃ D, D = b / Nat.gcd X b := ⟨_, rfl⟩
  have hv : Hid (rmakeV num (b : Int) = .tuple #[.agg #[.int .u64 (N : Int), .int .u64 (D : Int)], .int .i64 0]) := Lib.hid (by
    have : (1 : Int) ≤ (b : Int) ∧ (b : Int) ≤ 2147483647 := by omega
    simp only [rmakeV, this, and_self, if_true, hX, Int.toNat_natCast]
    rw [hN, hD])
  have hc := tmod_cases num (b : Int) (by omega)
  rw [hX] at hc
  obtain ⟨R, hR⟩ : ∃ R, R = num.tmod (b : Int) := ⟨_, rfl⟩
  rw [← hR] at hc
  have hRi : num.tmod (b : Int) = R := hR.symm
  have hXX : Hid (X = X % b) := Lib.hid (Nat.mod_eq_of_lt hXs).symm
  replace hN := Lib.hid hN
  replace hD := Lib.hid hD
  have hbI : (1 : Int) ≤ (b : Int) := by omega
  have hbI2 : (b : Int) ≤ 2147483647 := by omega
  have hK2 := Blk.new w 42 #[.int .u64 0, .int .u64 0]
  have hBW : Below w.heap.size w (w.alloc (.cells #[.int .u64 0, .int .u64 0] 42)) := (Below.refl _ w).alloc (Nat.le_refl _) _
  replace hK2 := Lib.hid hK2
  replace hBW := Lib.hid hBW
  clear hX hX0 hXb hR
  rcases hc with ⟨hneg, hsum⟩ | ⟨hpos, hsum⟩
  · go_enter Tryz.func97, Tryz.ntmps97
    go_wp2_with fail
    refine (low_any X b X N D _ (by omega) (by omega) hb1 hXX hN hD).mono ?_
    rintro e w1 ⟨rfl, hb⟩
    have r2 := Blk.below hK2.out hb
    have hB1 := Lib.hid (hBW.out.trans (hb.mono (by simp)))
    have k0 : w1.cell? ⟨w.heap.size, 0, none⟩ = some (.int .u64 0) := r2.cell 0
    have k1 : w1.cell? ⟨w.heap.size, 1, none⟩ = some (.int .u64 0) := r2.cell 1
    have f0 := r2.frozen 0
    have f1 := r2.frozen 1
    clear hb hK2 hBW r2
    go_wp2
    refine bodyPost_ret (v := .tuple #[.agg #[.int .u64 (N : Int), .int .u64 (D : Int)], .int .i64 0]) (by simp [results, Tryz.results97, go_sem, k0, k1]) rfl ⟨by rw [hv.out], ?_⟩
    exact ((hB1.out.setCell (p := ⟨w.heap.size, 0, none⟩) (by simp) _).setCell (p := ⟨w.heap.size, 1, none⟩) (by simp) _)
  · subst hsum
    go_enter Tryz.func97, Tryz.ntmps97
    go_wp2_with fail
    refine (low_any X b X N D _ (by omega) (by omega) hb1 hXX hN hD).mono ?_
    rintro e w1 ⟨rfl, hb⟩
    have r2 := Blk.below hK2.out hb
    have hB1 := Lib.hid (hBW.out.trans (hb.mono (by simp)))
    have k0 : w1.cell? ⟨w.heap.size, 0, none⟩ = some (.int .u64 0) := r2.cell 0
    have k1 : w1.cell? ⟨w.heap.size, 1, none⟩ = some (.int .u64 0) := r2.cell 1
    have f0 := r2.frozen 0
    have f1 := r2.frozen 1
    clear hb hK2 hBW r2
    go_wp2
    refine bodyPost_ret (v := .tuple #[.agg #[.int .u64 (N : Int), .int .u64 (D : Int)], .int .i64 0]) (by simp [results, Tryz.results97, go_sem, k0, k1]) rfl ⟨by rw [hv.out], ?_⟩
    exact ((hB1.out.setCell (p := ⟨w.heap.size, 0, none⟩) (by simp) _).setCell (p := ⟨w.heap.size, 1, none⟩) (by simp) _)
open Go.RowKit
end Go.Proofs.YtoaggmegmgdgbaaGreat
