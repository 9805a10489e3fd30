/- The document's numbers (filigreeref02): digits, at, times, ended, Mul. · The document's numbers (filigreeref02): Cmp, Sub, Pow. -/
import Derived.Test.YtciafmnideihjaaRefD
import Derived.BigQuiet
namespace Go.Proofs.Ytciafmnideihjaa
open Go.RowKit Go.Sort

/-- The value of digits to the base 256, the lowest first. -/
def vb (l : List Nat) : Nat := be l.reverse
theorem vb_nil : vb [] = 0 := rfl
theorem vb_cons (x : Nat) (l : List Nat) : vb (x :: l) = x + 256 * vb l := by
  unfold vb
  rw [List.reverse_cons, be_snoc]
  omega
theorem vb_snoc (l : List Nat) (x : Nat) : vb (l ++ [x]) = vb l + 256 ^ l.length * x := be_rev_snoc l x
theorem vb_lt {l : List Nat} (h : ∀ x, x ∈ l → x < 256) : vb l < 256 ^ l.length := by
  have := be_lt (l := l.reverse) (fun x hx => h x (List.mem_reverse.1 hx))
  rwa [List.length_reverse] at this
theorem vb_rev (l : List Nat) : vb l.reverse = be l := by unfold vb; rw [List.reverse_reverse]
theorem vb_set : ∀ {l : List Nat} {j y : Nat} (x : Nat), l[j]? = some y → vb (l.set j x) + 256 ^ j * y = vb l + 256 ^ j * x
  | [], j, y, x, h => by simp at h
  | a :: l, 0, y, x, h => by
    simp at h
    subst h
    rw [List.set_cons_zero, vb_cons, vb_cons]
    omega
  | a :: l, j + 1, y, x, h => by
    have ih := vb_set (l := l) (j := j) (y := y) x (by simpa using h)
    rw [List.set_cons_succ, vb_cons, vb_cons, Nat.pow_succ]
    have e1 : 256 ^ j * 256 * y = 256 * (256 ^ j * y) := by ac_rfl
    have e2 : 256 ^ j * 256 * x = 256 * (256 ^ j * x) := by ac_rfl
    rw [e1, e2]
    omega
theorem vb_zeros : ∀ n, vb (List.replicate n 0) = 0
  | 0 => rfl
  | n + 1 => by rw [List.replicate_succ, vb_cons, vb_zeros n]
theorem vb_drop {l : List Nat} {k x : Nat} (h : l[k]? = some x) : vb (l.drop k) = x + 256 * vb (l.drop (k + 1)) := by
  have hlt := lt_of_getElem? h
  have e : l[k] = x := by rw [List.getElem?_eq_getElem hlt] at h; exact Option.some.inj h
  rw [List.drop_eq_getElem_cons hlt, vb_cons, e]
theorem vb_drop_end {l : List Nat} {k : Nat} (h : l.length ≤ k) : vb (l.drop k) = 0 := by rw [List.drop_eq_nil_of_le h]; rfl
theorem vb_take {l : List Nat} {k x : Nat} (h : l[k]? = some x) : vb (l.take (k + 1)) = vb (l.take k) + 256 ^ k * x := by
  have hlt := lt_of_getElem? h
  have e : l[k] = x := by rw [List.getElem?_eq_getElem hlt] at h; exact Option.some.inj h
  rw [List.take_succ_eq_append_getElem hlt, vb_snoc, e, List.length_take, Nat.min_eq_left (by omega)]

/-- The outcome: digits that can be read. -/
def RetDig (l : List Nat) (w : World) (e : Ending) (w' : World) : Prop := ∃ v, e = .returned v ∧ Rd .i64 3 w' v l ∧ Below w.heap.size w w'

set_option maxRecDepth 100000 in
set_option maxHeartbeats 1000000 in
/-- filigreeref02.digits -/
theorem rdigits_any (s : ByteArray) (w : World) (hs : s.size ≤ 1073741824) :
    Calls Try.prog 99 #[.string s] w (RetDig (sl s).reverse w) := by
  obtain ⟨i0, hi, hz0, hz1, hz2⟩ := info_parts info_int
  go_enter Try.func99, Try.ntmps99
  go_wp2_with fail
  go_loopw [3, 4] (fun v i wr => ∃ (m : Nat) (z : Int), i = .int .i64 z ∧ z = (m : Int) - 1 ∧ m ≤ s.size ∧ wr.ownsRow w.heap.size 3 1 v ((sl s).drop m).reverse.length (ivs .i64 ((sl s).drop m).reverse) ∧ Below w.heap.size w wr) (fun _ i _ => (intOf i + 1).toNat)
  case atStart =>
    refine ⟨s.size, _, rfl, rfl, Nat.le_refl _, ?_, Below.refl _ _⟩
    rw [← sl_len, List.drop_length]
    exact World.ownsRow_nil _ _ _ _
  case round =>
    obtain ⟨m, z, rfl, hz, hm, hown, hB⟩ := hrel
    replace hown := Lib.hid hown
    replace hB := Lib.hid hB
    rcases m with _ | q
    · obtain rfl : z = -1 := by omega
      clear hz
      have ho := hown.out
      rw [List.drop_zero] at ho
      have hr := Lib.hid (rd_own ho)
      clear ho hown
      go_wp2_with fail
      go_ret
      exact ⟨_, rfl, hr.out, hB.out⟩
    · obtain rfl : z = (q : Int) := by omega
      have hq : q < s.size := by omega
      have hqI : (0 : Int) ≤ (q : Int) := by omega
      have hqI2 : (q : Int) < (s.size : Int) := by omega
      obtain ⟨c, hc⟩ : ∃ c, c = (s[q]'hq).toNat := ⟨_, rfl⟩
      have hci : ((s[q]'hq).toNat : Int) = (c : Int) := by rw [hc]
      have hget := sl_get s q hq
      rw [← hc] at hget
      have hsn : Hid (((sl s).drop q).reverse = ((sl s).drop (q + 1)).reverse ++ [c]) := Lib.hid (by
        have hlt := lt_of_getElem? hget
        have e : (sl s)[q] = c := by rw [List.getElem?_eq_getElem hlt] at hget; exact Option.some.inj hget
        rw [List.drop_eq_getElem_cons hlt, List.reverse_cons, e])
      obtain ⟨M, hM⟩ : ∃ M, M = ((sl s).drop (q + 1)).reverse := ⟨_, rfl⟩
      have hMl : M.length ≤ 1073741824 := by rw [hM, List.length_reverse, List.length_drop, sl_len]; omega
      rw [← hM] at hown hsn
      have hcs : c < 256 := by rw [hc]; exact UInt8.toNat_lt _
      clear hc hget hM hz
      obtain ⟨wo, rfl⟩ : ∃ wo : World, wo = wr := ⟨_, rfl⟩
      go_wp2_with (at_builtin; refine wpList_append_own _ rfl _ _ 138 rfl w.heap.size 3 i0 (.int .i64 0) 1 8 Try.underlying138 hi hz0 hz1 hz2 rfl (by decide) _ _ _ rfl (hown.out.alloc _) ⟨wo.heap.size, 0, none⟩ 1 1 [.int .i64 (c : Int)] rfl rfl ?d1 ?d2 ?d3 ?d4 ?d5 ?_)
      case d1 =>
        intro j u hj
        match j, hj with
        | 0, hj => simp at hj; subst hj; simp [Addr.add]
      case d2 => intro u hu; simp at hu; rw [hu]; rfl
      case d3 => unfold maxLen; omega
      case d4 => omega
      case d5 => have := hB.out.size; simp; omega
      intro v' w1 hown' hgrow _
      have hB1 : Below w.heap.size w w1 := (hB.out.alloc hB.out.size _).grown hgrow (by have := hB.out.size; simp; omega) (fun k hk => (hown.out.lt k hk).1)
      have hown2 : w1.ownsRow w.heap.size 3 1 v' ((sl s).drop q).reverse.length (ivs .i64 ((sl s).drop q).reverse) := by rw [hsn.out, ivs_append, List.length_append]; exact hown'
      replace hB1 := Lib.hid hB1
      replace hown2 := Lib.hid hown2
      clear hown' hgrow hown hB
      go_wp2_with fail
      go_roundw
      case rel => exact ⟨q, (q : Int) - 1, by first | rfl | go_num, rfl, by omega, hown2.out, hB1.out⟩
      case measure => simp [intOf]

set_option maxRecDepth 100000 in
set_option maxHeartbeats 400000 in
/-- filigreeref02.at -/
theorem rat_any (v : Value) (l : List Nat) (i x : Nat) (w : World) (h : Rd .i64 3 w v l) (hx : l[i]? = some x ∨ (l.length ≤ i ∧ x = 0)) (_ : i < 4611686018427387904) :
    Calls Try.prog 100 #[v, .int .i64 (i : Int)] w fun e w' => e = .returned (.int .i64 (x : Int)) ∧ Dr w w' := by
  obtain ⟨A, c, rfl, h1, h2, h3⟩ := id h
  obtain ⟨L, hL⟩ : ∃ L, L = l.length := ⟨_, rfl⟩
  rw [← hL] at h1 ⊢
  rcases hx with hx | ⟨hx, rfl⟩
  · have hlt := lt_of_getElem? hx
    obtain ⟨ga, oa, ca, La, ea, -, -, hAa, hLa⟩ := h.open_ (fun e => by rw [e] at hlt; simp at hlt)
    injection ea with ea1 _ ea2
    subst ea1 ea2
    have hcx : w.cell? ⟨ga, oa + i, none⟩ = some (.int .i64 (x : Int)) := hAa.cell (hLa _ _ hx)
    have hiI : (i : Int) < (L : Int) := by omega
    clear h h3 hx hAa hLa hL
    go_enter Try.func100, Try.ntmps100
    go_wp2_with fail
    go_ret
    exact ⟨rfl, Dr.refl _⟩
  · have hiI : ¬ (i : Int) < (L : Int) := by omega
    clear h h3
    go_enter Try.func100, Try.ntmps100
    go_wp2_with fail
    go_ret
    exact ⟨rfl, Dr.refl _⟩

/-- make([]int, n) -/
theorem make_int (n : Nat) (hn : n ≤ 4294967296) (w : World) :
    (Instr.makeSlice 138 (.int .i64 (n : Int)) (.int .i64 (n : Int))).run Try.prog w = .ok (.slice (some ⟨w.heap.size, 0, none⟩) n n) (w.alloc (.cells (ivs .i64 (List.replicate n 0)).toArray 3)) := by
  obtain ⟨i, hi, hz0, hz1, hz2⟩ := info_parts info_int
  have h1 : (i.bytes : Int) * (n : Int) ≤ 281474976710656 := by rw [hz2]; omega
  have hr := run_make (P := Try.prog) w 138 3 i _ Try.underlying138 hi hz0 .i64 .i64 n n (by omega) (Int.le_refl _) h1 (by omega)
  simp only [Int.toNat_natCast, hz1, Nat.mul_one] at hr
  rw [hr, show (Value.int IntKind.i64 0).cells = #[Value.int IntKind.i64 0] from rfl, made_zeros]

theorem ts_step {O : List Nat} {j c x y z V V' T : Nat} (hT : vb O + 256 ^ j * (c + x * V) = T) (hV : V = y + 256 * V') (hz : O[j]? = some z) :
    vb (O.set j ((c + z + x * y) % 256)) + 256 ^ (j + 1) * ((c + z + x * y) / 256 + x * V') = T := by
  have h1 := vb_set ((c + z + x * y) % 256) hz
  obtain ⟨S, hS⟩ : ∃ S, S = c + z + x * y := ⟨_, rfl⟩
  rw [← hS] at h1 ⊢
  have h2 : 256 * (S / 256) + S % 256 = S := Nat.div_add_mod S 256
  have h3 : 256 ^ (j + 1) * (S / 256 + x * V') = 256 ^ j * (256 * (S / 256)) + 256 ^ j * (256 * (x * V')) := by
    rw [Nat.pow_succ, Nat.mul_add, Nat.mul_assoc, Nat.mul_assoc]
  have h4 : c + x * V = c + x * y + 256 * (x * V') := by
    rw [hV, Nat.mul_add]
    have : x * (256 * V') = 256 * (x * V') := by ac_rfl
    omega
  rw [h4, Nat.mul_add, Nat.mul_add] at hT
  have h5 : 256 ^ j * S = 256 ^ j * (256 * (S / 256)) + 256 ^ j * (S % 256) := by rw [← Nat.mul_add, h2]
  have h6 : 256 ^ j * S = 256 ^ j * c + 256 ^ j * z + 256 ^ j * (x * y) := by rw [hS, Nat.mul_add, Nat.mul_add]
  rw [h3]
  have h7 : 256 ^ j * (c + x * y) = 256 ^ j * c + 256 ^ j * (x * y) := Nat.mul_add _ _ _
  omega
theorem ts_room {j m c A T R : Nat} (hT : A + 256 ^ j * (c + R) = T) (hc : 0 < c) (hm : T < 256 ^ m) : j < m := by
  rcases Nat.lt_or_ge j m with h | h
  · exact h
  · exfalso
    have h1 : 256 ^ m ≤ 256 ^ j := Nat.pow_le_pow_right (by omega) h
    have h2 : 256 ^ j * 1 ≤ 256 ^ j * (c + R) := Nat.mul_le_mul_left _ (by omega)
    omega

set_option maxRecDepth 100000 in
set_option maxHeartbeats 2000000 in
/-- filigreeref02.times -/
theorem rtimes_any (a b : ByteArray) (w : World) (ha : a.size ≤ 536870000) (hb : b.size ≤ 536870000) :
    Calls Try.prog 109 #[.string a, .string b] w (RetVal (.string (natS (be (sl a) * be (sl b)))) w) := by
  obtain ⟨X, hX⟩ : ∃ X, X = (sl a).reverse := ⟨_, rfl⟩
  obtain ⟨Y, hY⟩ : ∃ Y, Y = (sl b).reverse := ⟨_, rfl⟩
  have hXs : ∀ x, x ∈ X → x < 256 := fun x hx => by rw [hX] at hx; exact sl_lt a x (List.mem_reverse.1 hx)
  have hYs : ∀ x, x ∈ Y → x < 256 := fun x hx => by rw [hY] at hx; exact sl_lt b x (List.mem_reverse.1 hx)
  have hXv : Hid (vb X = be (sl a)) := Lib.hid (by rw [hX, vb_rev])
  have hYv : Hid (vb Y = be (sl b)) := Lib.hid (by rw [hY, vb_rev])
  have hXl : X.length = a.size := by rw [hX, List.length_reverse, sl_len]
  have hYl : Y.length = b.size := by rw [hY, List.length_reverse, sl_len]
  have da := rdigits_any a w (by omega)
  have db : ∀ W, Calls Try.prog 99 #[.string b] W (RetDig Y W) := fun W => by rw [hY]; exact rdigits_any b W (by omega)
  rw [← hX] at da
  obtain ⟨lx, hlx⟩ : ∃ lx, lx = X.length := ⟨_, rfl⟩
  obtain ⟨ly, hly⟩ : ∃ ly, ly = Y.length := ⟨_, rfl⟩
  obtain ⟨m1, hm1⟩ : ∃ m1, m1 = lx + ly := ⟨_, rfl⟩
  obtain ⟨n, hn⟩ : ∃ n, n = m1 + 1 := ⟨_, rfl⟩
  have hmi : (lx : Int) + (ly : Int) = (m1 : Int) := by omega
  have hni : (m1 : Int) + 1 = (n : Int) := by omega
  have hlxs : lx ≤ 1073741000 := by omega
  have hlys : ly ≤ 1073741000 := by omega
  have hnl : lx + ly < n := by omega
  have hns : n ≤ 1073741824 := by omega
  replace hlx := Lib.hid hlx
  replace hly := Lib.hid hly
  replace hXs := Lib.hid hXs
  replace hYs := Lib.hid hYs
  replace da := Lib.hid da
  replace db := Lib.hid db
  clear hX hY hXl hYl hm1 hn
  go_enter Try.func109, Try.ntmps109
  go_wp2_with fail
  refine da.out.mono ?_
  rintro e w1 ⟨vx, rfl, hx, hB1⟩
  replace hx := Lib.hid hx
  replace hB1 := Lib.hid hB1
  go_wp2_with fail
  refine (db.out _).mono ?_
  rintro e w2 ⟨vy, rfl, hy, hB2⟩
  replace hx := Lib.hid (hx.out.below hB2)
  have hB := Lib.hid (hB1.out.trans (hB2.mono hB1.out.size))
  replace hy := Lib.hid hy
  clear hB2 hB1 da db
  obtain ⟨Ax, cx, rfl, x1, x2, -⟩ := id hx.out
  obtain ⟨Ay, cy, rfl, y1, y2, -⟩ := id hy.out
  rw [← hlx.out] at x1 ⊢
  rw [← hly.out] at y1 ⊢
  have hmk := make_int n (by omega)
  go_wp2_with fail
  have hA0 := Arr.new w2 .i64 3 (List.replicate n 0)
  have hB0 : Below w2.heap.size w2 (w2.alloc (.cells (ivs .i64 (List.replicate n 0)).toArray 3)) := (Below.refl _ _).alloc (Nat.le_refl _) _
  generalize hw0 : w2.alloc (.cells (ivs .i64 (List.replicate n 0)).toArray 3) = w3 at hA0 hB0 ⊢
  clear hw0 hmk hni hmi
  go_loopw [8] (fun iv wr => ∃ (i : Nat) (O : List Nat), iv = .int .i64 (i : Int) ∧ i ≤ lx ∧ O.length = n ∧ (∀ x, x ∈ O → x < 256) ∧ vb O = vb (X.take i) * vb Y ∧ Arr wr w2.heap.size .i64 3 O ∧ Below w2.heap.size w2 wr) (fun iv _ => lx - (intOf iv).toNat)
  case atStart => exact ⟨0, _, rfl, Nat.zero_le _, by simp, fun x hx => by rw [List.eq_of_mem_replicate hx]; omega, by rw [vb_zeros, List.take_zero, vb_nil, Nat.zero_mul], hA0, hB0⟩
  case round =>
    obtain ⟨i, O, rfl, hi, hO, hOs, hOv, hA, hBr⟩ := hrel
    replace hO := Lib.hid hO
    replace hOs := Lib.hid hOs
    replace hOv := Lib.hid hOv
    replace hA := Lib.hid hA
    replace hBr := Lib.hid hBr
    by_cases h0 : i < lx
    · have h0I : (i : Int) < (lx : Int) := by omega
      obtain ⟨x, hgx⟩ : ∃ x, X[i]? = some x := ⟨_, List.getElem?_eq_getElem (by rw [← hlx.out]; exact h0)⟩
      have hxs : x < 256 := hXs.out x (List.mem_of_getElem? hgx)
      obtain ⟨T, hT⟩ : ∃ T, T = vb (X.take (i + 1)) * vb Y := ⟨_, rfl⟩
      have hTs : Hid (T < 256 ^ (i + 1 + ly)) := Lib.hid (by
        have t1 := vb_lt (l := X.take (i + 1)) (fun x hx => hXs.out x (List.mem_of_mem_take hx))
        have t2 := vb_lt hYs.out
        rw [List.length_take, ← hlx.out, Nat.min_eq_left (by omega)] at t1
        rw [← hly.out] at t2
        rw [hT, Nat.pow_add]
        exact Nat.mul_lt_mul'' t1 t2)
      have hstart : Hid (vb O + 256 ^ (i + 0) * (0 + x * vb (Y.drop 0)) = T) := Lib.hid (by
        rw [hT, vb_take hgx, hOv.out, List.drop_zero, Nat.add_mul, Nat.add_zero, Nat.zero_add, Nat.mul_assoc])
      have hTe := Lib.hid hT
      obtain ⟨ga, oa, ca, La, ea, -, -, hAa, hLa⟩ := hx.out.open_ (fun e => by rw [e] at hgx; simp at hgx)
      injection ea with ea1 _ ea2
      subst ea1 ea2
      have hcx : w2.cell? ⟨ga, oa + i, none⟩ = some (.int .i64 (x : Int)) := hAa.cell (hLa _ _ hgx)
      have hgl : ga < w2.heap.size := hAa.lt
      replace hcx := Lib.hid hcx
      clear hgx hT hOv hAa hLa
      go_wp2_with fail
      go_loopw [9, 10] (fun mv kv wr => ∃ (k c : Nat) (O : List Nat), mv = .int .i64 (c : Int) ∧ kv = .int .i64 (k : Int) ∧ k ≤ ly + 1 ∧ c < 256 ∧ O.length = n ∧ (∀ x, x ∈ O → x < 256) ∧ vb O + 256 ^ (i + k) * (c + x * vb (Y.drop k)) = T ∧ Arr wr w2.heap.size .i64 3 O ∧ Below w2.heap.size w2 wr) (fun _ kv _ => ly + 2 - (intOf kv).toNat)
      case atStart => exact ⟨0, 0, O, rfl, rfl, Nat.zero_le _, by omega, hO.out, hOs.out, hstart.out, hA.out, hBr.out⟩
      case round =>
        clear hO hOs hA hBr hstart
        obtain ⟨k, c, O, rfl, rfl, hk, hcs, hO, hOs, hinv, hA, hBr⟩ := hrel
        replace hinv := Lib.hid hinv
        replace hO := Lib.hid hO
        replace hOs := Lib.hid hOs
        by_cases hgo : k < ly ∨ 0 < c
        · obtain ⟨y, hy1, hyV, hys⟩ : ∃ y, (Y[k]? = some y ∨ (Y.length ≤ k ∧ y = 0)) ∧ vb (Y.drop k) = y + 256 * vb (Y.drop (k + 1)) ∧ y < 256 := by
            by_cases hkl : k < ly
            · obtain ⟨y, hgy⟩ : ∃ y, Y[k]? = some y := ⟨_, List.getElem?_eq_getElem (by rw [← hly.out]; exact hkl)⟩
              exact ⟨y, .inl hgy, vb_drop hgy, hYs.out y (List.mem_of_getElem? hgy)⟩
            · exact ⟨0, .inr ⟨by rw [← hly.out]; omega, rfl⟩, by rw [vb_drop_end (by rw [← hly.out]; omega), vb_drop_end (by rw [← hly.out]; omega)], by omega⟩
          have hkn : k ≤ ly := by
            rcases hgo with h | h
            · omega
            · have := ts_room hinv.out h hTs.out
              omega
          obtain ⟨j, hj⟩ : ∃ j, j = i + k := ⟨_, rfl⟩
          have hji : (i : Int) + (k : Int) = (j : Int) := by omega
          have hjn : j < n := by omega
          have hjnI : (j : Int) < (n : Int) := by omega
          obtain ⟨z, hz⟩ : ∃ z, O[j]? = some z := ⟨_, List.getElem?_eq_getElem (by rw [hO.out]; exact hjn)⟩
          have hzs : z < 256 := hOs.out z (List.mem_of_getElem? hz)
          have hcz : wr.cell? ⟨w2.heap.size, j, none⟩ = some (.int .i64 (z : Int)) := hA.cell hz
          have hfz : wr.frozen? ⟨w2.heap.size, j, none⟩ = false := hA.frozen _
          have hcx' : wr.cell? ⟨ga, oa + i, none⟩ = some (.int .i64 (x : Int)) := (hBr.cell (p := ⟨ga, oa + i, none⟩) hgl).trans hcx.out
          have hyr := hy.out.below hBr
          rw [← hly.out] at hyr
          replace hyr := Lib.hid hyr
          obtain ⟨P, hP⟩ : ∃ P, P = x * y := ⟨_, rfl⟩
          have hPs : P ≤ 255 * 255 := by rw [hP]; exact Nat.mul_le_mul (by omega) (by omega)
          have hPi : (x : Int) * (y : Int) = (P : Int) := by rw [hP]; push_cast; rfl
          obtain ⟨S, hS⟩ : ∃ S, S = c + z + P := ⟨_, rfl⟩
          obtain ⟨Q, hQ⟩ : ∃ Q, Q = c + z := ⟨_, rfl⟩
          have hQi : (c : Int) + (z : Int) = (Q : Int) := by omega
          have hSi : (Q : Int) + (P : Int) = (S : Int) := by omega
          have hjw : IntKind.i64.wrap (j : Int) = (j : Int) := by rw [IntKind.wrap_i64]; omega
          have hQw : IntKind.i64.wrap (Q : Int) = (Q : Int) := by rw [IntKind.wrap_i64]; omega
          have hPw : IntKind.i64.wrap (P : Int) = (P : Int) := by rw [IntKind.wrap_i64]; omega
          have hSw : IntKind.i64.wrap (S : Int) = (S : Int) := by rw [IntKind.wrap_i64]; omega
          have hin := hinv.out
          rw [← hj] at hin
          have hstep := ts_step hin hyV hz
          clear hin
          rw [← hP, ← hS] at hstep
          obtain ⟨r, hr⟩ : ∃ r, r = S % 256 := ⟨_, rfl⟩
          obtain ⟨q, hq⟩ : ∃ q, q = S / 256 := ⟨_, rfl⟩
          have hri : (S : Int) % 256 = (r : Int) := by omega
          have hqi : (S : Int) / 256 = (q : Int) := by omega
          have hrs : r < 256 := by omega
          have hqs : q < 256 := by omega
          rw [← hr, ← hq] at hstep
          have hst2 : Hid (vb (O.set j r) + 256 ^ (i + (k + 1)) * (q + x * vb (Y.drop (k + 1))) = T) := Lib.hid (by
            rw [← Nat.add_assoc, ← hj]
            exact hstep)
          have HS2 : Hid (∀ x, x ∈ O.set j r → x < 256) := Lib.hid (fun x hx => by
            rcases List.mem_or_eq_of_mem_set hx with h1 | h1
            · exact hOs.out x h1
            · rw [h1]; exact hrs)
          have hA2 := hA.set_ j r
          replace hA2 := Lib.hid hA2
          replace hBr := Lib.hid hBr
          replace hy1 := Lib.hid hy1
          have hk62 : k < 4611686018427387904 := by omega
          clear hstep hyV hz hj hP hS hr hq hA hinv hQ
          have hgo2 : k < ly ∨ ¬ k < ly ∧ 0 < c := by omega
          rcases hgo2 with hg | ⟨hg, hg2⟩
          · have hgI : (k : Int) < (ly : Int) := by omega
            clear hgo
            go_wp2_with fail
            go_quiet ((go_at_call 100; exact quiet_dr (rat_any _ Y k y _ hyr.out hy1.out hk62)))
            go_wp2_with fail
            go_roundw
            case rel => exact ⟨k + 1, q, _, rfl, by go_num, by omega, hqs, by rw [List.length_set]; exact hO.out, HS2.out, hst2.out, hA2.out, (below_drewN hBr.out _).setCell (p := ⟨w2.heap.size, j, none⟩) (Nat.le_refl _) _⟩
            case measure => simp [intOf]; omega
          · have hgI : ¬ (k : Int) < (ly : Int) := by omega
            have hgI2 : (0 : Int) < (c : Int) := by omega
            clear hgo
            go_wp2_with fail
            go_quiet ((go_at_call 100; exact quiet_dr (rat_any _ Y k y _ hyr.out hy1.out hk62)))
            go_wp2_with fail
            go_roundw
            case rel => exact ⟨k + 1, q, _, rfl, by go_num, by omega, hqs, by rw [List.length_set]; exact hO.out, HS2.out, hst2.out, hA2.out, (below_drewN hBr.out _).setCell (p := ⟨w2.heap.size, j, none⟩) (Nat.le_refl _) _⟩
            case measure => simp [intOf]; omega
        · have hg1 : ¬ (k : Int) < (ly : Int) := by omega
          have hg2 : ¬ (0 : Int) < (c : Int) := by omega
          have hfin : Hid (vb O = vb (X.take (i + 1)) * vb Y) := Lib.hid (by
            have := hinv.out
            rw [vb_drop_end (by rw [← hly.out]; omega), Nat.mul_zero, show c + 0 = 0 by omega, Nat.mul_zero, Nat.add_zero] at this
            rw [this, hTe.out])
          replace hA := Lib.hid hA
          replace hBr := Lib.hid hBr
          clear hinv hgo
          go_wp2_with fail
          go_roundw
          case rel => exact ⟨i + 1, O, by go_num, by omega, hO.out, hOs.out, hfin.out, hA.out, hBr.out⟩
          case measure => simp [intOf]; omega
    · obtain rfl : i = lx := by omega
      have h0I : ¬ (i : Int) < (i : Int) := by omega
      have hrd : Rd .i64 3 wr (.slice (some ⟨w2.heap.size, 0, none⟩) n n) O := by
        have := Rd.whole hA.out (by rw [hO.out]; unfold maxLen; omega)
        rw [hO.out] at this
        exact this
      have hfin : Hid (madeS O = natS (be (sl a) * be (sl b))) := Lib.hid (by
        show natS (vb O) = _
        rw [hOv.out, hlx.out, List.take_length, hXv.out, hYv.out])
      have hOl : O.length ≤ 4294967296 := by rw [hO.out]; omega
      replace hrd := Lib.hid hrd
      clear hOv hA
      go_wp2_with fail
      refine (made_any _ O _ hrd.out hOs.out (by rw [hO.out]; omega)).mono ?_
      rintro e w4 ⟨rfl, hb⟩
      rw [hfin.out]
      have hB3 := hBr.out.trans (hb.mono hBr.out.size)
      have hB4 := Lib.hid (hB.out.trans (hB3.mono hB.out.size))
      clear hb hB3
      go_wp2_with fail
      go_ret
      exact ⟨rfl, hB4.out⟩

set_option maxHeartbeats 400000 in
/-- filigreeref02.ended, of what is not too long. -/
theorem ended_any (s : ByteArray) (w : World) (hs : s.size ≤ 16384) :
    Calls Try.prog 108 #[.string s] w fun e w' => e = .returned (.tuple #[.string s, .int .i64 0]) ∧ w = w' := by
  have hI : ¬ (16384 : Int) < (s.size : Int) := by omega
  go_enter Try.func108, Try.ntmps108
  go_wp2_with fail
  go_ret2
  exact ⟨rfl, rfl⟩

set_option maxHeartbeats 400000 in
/-- filigreeref02.Mul, of what is not too long. -/
theorem rmul_any (a b : Nat) (w : World) (h1 : (nb a).length + (nb b).length ≤ 16385) (h2 : (nb (a * b)).length ≤ 16384) :
    Calls Try.prog 81 #[.string (natS a), .string (natS b)] w (RetVal (.tuple #[.string (natS (a * b)), .int .i64 0]) w) := by
  have e1 := natS_size a
  have e2 := natS_size b
  have e3 := natS_size (a * b)
  have k := rtimes_any (natS a) (natS b) w (by omega) (by omega)
  rw [be_natS, be_natS] at k
  obtain ⟨s, hs⟩ : ∃ s, s = natS a := ⟨_, rfl⟩
  obtain ⟨t, ht⟩ : ∃ t, t = natS b := ⟨_, rfl⟩
  obtain ⟨u, hu⟩ : ∃ u, u = natS (a * b) := ⟨_, rfl⟩
  rw [← hs, ← ht, ← hu] at k
  rw [← hs] at e1
  rw [← ht] at e2
  rw [← hu] at e3
  rw [← hs, ← ht, ← hu]
  have hI : ¬ (16385 : Int) < (s.size : Int) + (t.size : Int) := by omega
  have hu3 : u.size ≤ 16384 := by omega
  replace k := Lib.hid k
  clear hs ht hu e1 e2 e3 h1 h2
  go_enter Try.func81, Try.ntmps81
  go_wp2_with fail
  refine k.out.mono ?_
  rintro e w1 ⟨rfl, hb⟩
  replace hb := Lib.hid hb
  go_wp2_with fail
  refine (ended_any u _ hu3).mono ?_
  rintro e w2 ⟨rfl, rfl⟩
  go_wp2_with fail
  go_ret2
  exact ⟨rfl, hb.out⟩
end Go.Proofs.Ytciafmnideihjaa

namespace Go.Proofs.Ytciafmnideihjaa
open Go.RowKit Go.Sort

theorem nb_len_lt {a b : Nat} (h : (nb a).length < (nb b).length) : a < b := by
  have hb : 0 < b := by
    rcases Nat.eq_zero_or_pos b with h0 | h0
    · rw [h0, nb_zero] at h; simp at h
    · exact h0
  have h1 := (nb_bounds hb).1
  rcases Nat.eq_zero_or_pos a with h0 | h0
  · omega
  · have h2 := (nb_bounds h0).2
    have h3 : 256 ^ (nb a).length ≤ 256 ^ ((nb b).length - 1) := Nat.pow_le_pow_right (by omega) (by omega)
    omega
theorem nb_len_mono {a b : Nat} (h : a ≤ b) : (nb a).length ≤ (nb b).length := by
  rcases Nat.lt_or_ge (nb b).length (nb a).length with h1 | h1
  · have := nb_len_lt h1; omega
  · exact h1
theorem be_split {L : List Nat} {i x : Nat} (h : L[i]? = some x) : be L = be (L.take i) * 256 ^ (L.length - i) + (x * 256 ^ (L.length - i - 1) + be (L.drop (i + 1))) := by
  have hlt := lt_of_getElem? h
  have e : L[i] = x := by rw [List.getElem?_eq_getElem hlt] at h; exact Option.some.inj h
  conv => lhs; rw [← List.take_append_drop i L]
  rw [be_append, List.length_drop, List.drop_eq_getElem_cons hlt, e, show x :: L.drop (i + 1) = [x] ++ L.drop (i + 1) from rfl, be_append, List.length_drop]
  congr 2
  rw [show be [x] = x by simp [be]]
  congr 2
theorem be_less {L M : List Nat} {i x y : Nat} (hM : ∀ z, z ∈ L → z < 256) (hl : L.length = M.length) (ht : L.take i = M.take i) (hx : L[i]? = some x) (hy : M[i]? = some y) (h : x < y) : be L < be M := by
  have e1 := be_split hx
  have e2 := be_split hy
  have hlt := lt_of_getElem? hx
  rw [← ht, ← hl] at e2
  have e3 := be_lt (l := L.drop (i + 1)) (fun z hz => hM z (List.mem_of_mem_drop hz))
  rw [List.length_drop, show L.length - (i + 1) = L.length - i - 1 by omega] at e3
  rw [e1, e2]
  have e4 : (x + 1) * 256 ^ (L.length - i - 1) ≤ y * 256 ^ (L.length - i - 1) := Nat.mul_le_mul_right _ h
  rw [Nat.add_mul, Nat.one_mul] at e4
  omega

set_option maxRecDepth 100000 in
set_option maxHeartbeats 1000000 in
/-- filigreeref02.Cmp -/
theorem rcmp02_any (a b : Nat) (w : World) (ha : (nb a).length ≤ 1073741824) (hb : (nb b).length ≤ 1073741824) :
    Calls Try.prog 68 #[.string (natS a), .string (natS b)] w fun e w' => e = .returned (.int .i64 (cmpI a b)) ∧ Dr w w' := by
  obtain ⟨s, hs⟩ : ∃ s, s = natS a := ⟨_, rfl⟩
  obtain ⟨t, ht⟩ : ∃ t, t = natS b := ⟨_, rfl⟩
  have z1 : s.size = (nb a).length := by rw [hs, natS_size]
  have z2 : t.size = (nb b).length := by rw [ht, natS_size]
  have v1 : be (sl s) = a := by rw [hs, be_natS]
  have v2 : be (sl t) = b := by rw [ht, be_natS]
  rw [← hs, ← ht]
  have hsz : s.size ≤ 1073741824 := by omega
  have htz : t.size ≤ 1073741824 := by omega
  rcases Nat.lt_trichotomy s.size t.size with h | h | h
  · have hc : Hid (cmpI a b = -1) := Lib.hid (by unfold cmpI; rw [if_pos (nb_len_lt (by omega))])
    have hI : ((s.size : Int) == (t.size : Int)) = false := by simp; omega
    have hI2 : (s.size : Int) < (t.size : Int) := by omega
    clear hs ht z1 z2 v1 v2
    go_enter Try.func68, Try.ntmps68
    go_wp2_with fail
    go_ret
    exact ⟨by rw [hc.out]; rfl, Dr.refl _⟩
  rotate_left
  · have hc : Hid (cmpI a b = 1) := Lib.hid (by
      have := nb_len_lt (a := b) (b := a) (by omega)
      unfold cmpI; rw [if_neg (by omega), if_pos this])
    have hI : ((s.size : Int) == (t.size : Int)) = false := by simp; omega
    have hI2 : ¬ (s.size : Int) < (t.size : Int) := by omega
    clear hs ht z1 z2 v1 v2
    go_enter Try.func68, Try.ntmps68
    go_wp2_with fail
    go_ret
    exact ⟨by rw [hc.out]; rfl, Dr.refl _⟩
  have hI : ((s.size : Int) == (t.size : Int)) = true := by simp; omega
  have hl : (sl s).length = (sl t).length := by rw [sl_len, sl_len, h]
  replace hl := Lib.hid hl
  replace v1 := Lib.hid v1
  replace v2 := Lib.hid v2
  clear hs ht z1 z2
  go_enter Try.func68, Try.ntmps68
  go_wp2_with fail
  go_loopw [5] (fun iv wr => ∃ i : Nat, iv = .int .i64 (i : Int) ∧ i ≤ s.size ∧ (sl s).take i = (sl t).take i ∧ Dr w wr) (fun iv _ => s.size - (intOf iv).toNat)
  case atStart => exact ⟨0, rfl, Nat.zero_le _, rfl, Dr.refl _⟩
  case round =>
    obtain ⟨i, rfl, hi, htk, nd, rfl⟩ := hrel
    by_cases h0 : i < s.size
    · have h0I : (i : Int) < (s.size : Int) := by omega
      have h0t : i < t.size := by omega
      have h0I2 : (i : Int) < (t.size : Int) := by omega
      obtain ⟨x, hx⟩ : ∃ x, x = (s[i]'h0).toNat := ⟨_, rfl⟩
      obtain ⟨y, hy⟩ : ∃ y, y = (t[i]'h0t).toNat := ⟨_, rfl⟩
      have hxi : ((s[i]'h0).toNat : Int) = (x : Int) := by rw [hx]
      have hyi : ((t[i]'h0t).toNat : Int) = (y : Int) := by rw [hy]
      have gx := sl_get s i h0
      have gy := sl_get t i h0t
      rw [← hx] at gx
      rw [← hy] at gy
      rcases Nat.lt_trichotomy x y with hxy | hxy | hxy
      · have hc : Hid (cmpI a b = -1) := Lib.hid (by
          have := be_less (sl_lt s) hl.out htk gx gy hxy
          rw [v1.out, v2.out] at this
          unfold cmpI; rw [if_pos this])
        have hxI : (x : Int) < (y : Int) := by omega
        clear hx hy gx gy htk
        go_wp2_with fail
        go_quiet (fail)
        go_wp2_with fail
        go_ret
        exact ⟨by rw [hc.out]; rfl, by repeat (first | exact Dr.refl _ | apply Dr.drewN)⟩
      · have hxI : ¬ (x : Int) < (y : Int) := by omega
        have hxI2 : ¬ (y : Int) < (x : Int) := by omega
        have htk2 : Hid ((sl s).take (i + 1) = (sl t).take (i + 1)) := Lib.hid (by
          have l1 := lt_of_getElem? gx
          have l2 := lt_of_getElem? gy
          rw [List.take_succ_eq_append_getElem l1, List.take_succ_eq_append_getElem l2, htk]
          rw [List.getElem?_eq_getElem l1] at gx
          rw [List.getElem?_eq_getElem l2] at gy
          rw [Option.some.inj gx, Option.some.inj gy, hxy])
        clear hx hy gx gy htk hxy
        go_wp2_with fail
        go_quiet (fail)
        go_wp2_with fail
        go_quiet (fail)
        go_wp2_with fail
        go_roundw
        case rel => exact ⟨i + 1, by go_num, by omega, htk2.out, by repeat (first | exact Dr.refl _ | apply Dr.drewN)⟩
        case measure => simp [intOf]; omega
      · have hc : Hid (cmpI a b = 1) := Lib.hid (by
          have := be_less (sl_lt t) hl.out.symm htk.symm gy gx hxy
          rw [v1.out, v2.out] at this
          unfold cmpI; rw [if_neg (by omega), if_pos this])
        have hxI : ¬ (x : Int) < (y : Int) := by omega
        have hxI2 : (y : Int) < (x : Int) := by omega
        clear hx hy gx gy htk
        go_wp2_with fail
        go_quiet (fail)
        go_wp2_with fail
        go_quiet (fail)
        go_wp2_with fail
        go_ret
        exact ⟨by rw [hc.out]; rfl, by repeat (first | exact Dr.refl _ | apply Dr.drewN)⟩
    · have hie : i = s.size := by omega
      have h0I : ¬ (i : Int) < (s.size : Int) := by omega
      have hc : Hid (cmpI a b = 0) := Lib.hid (by
        rw [hie, ← sl_len, List.take_length, hl.out, List.take_length] at htk
        have : a = b := by rw [← v1.out, ← v2.out, htk]
        unfold cmpI; rw [if_neg (by omega), if_neg (by omega)])
      clear htk
      go_wp2_with fail
      go_ret
      exact ⟨by rw [hc.out]; rfl, (Dr.refl _).drewN _⟩

theorem own_drewN {w : World} {base : Nat} {T : TypeId} {size : Nat} {v : Value} {n : Nat} {xs : List Value} (h : w.ownsRow base T size v n xs) (m : Nat) : (w.drewN m).ownsRow base T size v n xs := h
theorem vb_take2 {l : List Nat} {k x : Nat} (h : l[k]? = some x ∨ (l.length ≤ k ∧ x = 0)) : vb (l.take (k + 1)) = vb (l.take k) + 256 ^ k * x := by
  rcases h with h | ⟨h, rfl⟩
  · exact vb_take h
  · rw [List.take_of_length_le (by omega), List.take_of_length_le h]; omega
theorem vb_nb (a : Nat) : vb (nb a) = a := by
  have := be_natL a
  unfold natL at this
  exact this

set_option maxRecDepth 100000 in
set_option maxHeartbeats 2000000 in
/-- filigreeref02.Sub -/
theorem rsub_any (a b : Nat) (w : World) (hba : b ≤ a) (ha : (nb a).length ≤ 1073741000) :
    Calls Try.prog 70 #[.string (natS a), .string (natS b)] w (RetVal (.tuple #[.string (natS (a - b)), .int .i64 0]) w) := by
  obtain ⟨i0, hi, hz0, hz1, hz2⟩ := info_parts info_int
  have hlb := nb_len_mono hba
  have kc := rcmp02_any a b w (by omega) (by omega)
  have hcv : cmpI a b = 0 ∨ cmpI a b = 1 := by
    unfold cmpI
    rw [if_neg (by omega)]
    split
    · exact .inr rfl
    · exact .inl rfl
  obtain ⟨cm, hcm⟩ : ∃ cm, cm = cmpI a b := ⟨_, rfl⟩
  rw [← hcm] at kc hcv
  have hcm0 : ¬ cm < 0 := by omega
  have d1 : ∀ W, Calls Try.prog 99 #[.string (natS a)] W (RetDig (nb a) W) := fun W => by
    have h := rdigits_any (natS a) W (by rw [natS_size]; omega)
    rw [sl_natS] at h
    unfold natL at h
    rwa [List.reverse_reverse] at h
  have d2 : ∀ W, Calls Try.prog 99 #[.string (natS b)] W (RetDig (nb b) W) := fun W => by
    have h := rdigits_any (natS b) W (by rw [natS_size]; omega)
    rw [sl_natS] at h
    unfold natL at h
    rwa [List.reverse_reverse] at h
  obtain ⟨X, hX⟩ : ∃ X, X = nb a := ⟨_, rfl⟩
  obtain ⟨Y, hY⟩ : ∃ Y, Y = nb b := ⟨_, rfl⟩
  have hXv : Hid (vb X = a) := Lib.hid (by rw [hX, vb_nb])
  have hYv : Hid (vb Y = b) := Lib.hid (by rw [hY, vb_nb])
  have hXs : Hid (∀ x, x ∈ X → x < 256) := Lib.hid (by rw [hX]; exact fun x hx => nb_lt x hx)
  have hYs : Hid (∀ x, x ∈ Y → x < 256) := Lib.hid (by rw [hY]; exact fun x hx => nb_lt x hx)
  rw [← hX] at d1 hlb ha
  rw [← hY] at d2 hlb
  obtain ⟨s, hs⟩ : ∃ s, s = natS a := ⟨_, rfl⟩
  obtain ⟨t, ht⟩ : ∃ t, t = natS b := ⟨_, rfl⟩
  rw [← hs, ← ht] at kc
  rw [← hs] at d1
  rw [← ht] at d2
  obtain ⟨r, hr⟩ : ∃ r, r = natS (a - b) := ⟨_, rfl⟩
  rw [← hs, ← ht, ← hr]
  obtain ⟨lx, hlx⟩ : ∃ lx, lx = X.length := ⟨_, rfl⟩
  rw [← hlx] at hlb ha
  replace hlx := Lib.hid hlx
  replace hr := Lib.hid hr
  replace kc := Lib.hid kc
  replace d1 := Lib.hid d1
  replace d2 := Lib.hid d2
  clear hX hY hs ht hcm hcv
  go_enter Try.func70, Try.ntmps70
  go_wp2_with fail
  refine kc.out.mono ?_
  rintro e w1 ⟨rfl, nd, rfl⟩
  clear kc
  go_wp2_with fail
  refine (d1.out _).mono ?_
  rintro e w1 ⟨vx, rfl, hx, hB1⟩
  replace hB1 : Hid (Below w.heap.size w w1) := Lib.hid ((below_drewN (Below.refl _ w) nd).trans hB1)
  replace hx := Lib.hid hx
  clear d1
  go_wp2_with fail
  refine (d2.out _).mono ?_
  rintro e w2 ⟨vy, rfl, hy, hB2⟩
  replace hx := Lib.hid (hx.out.below hB2)
  have hB := Lib.hid (hB1.out.trans (hB2.mono hB1.out.size))
  replace hy := Lib.hid hy
  clear hB2 hB1 d2
  obtain ⟨Ax, cx, rfl, x1, x2, -⟩ := id hx.out
  obtain ⟨Ay, cy, rfl, y1, y2, -⟩ := id hy.out
  rw [← hlx.out] at x1 ⊢
  go_wp2_with fail
  go_loopw [8, 9, 10] (fun ov lv iv wr => ∃ (i c : Nat) (L : List Nat), iv = .int .i64 (i : Int) ∧ lv = .int .i64 (c : Int) ∧ i ≤ lx ∧ c ≤ 1 ∧ L.length = i ∧ (∀ x, x ∈ L → x < 256) ∧ vb L + vb (Y.take i) = vb (X.take i) + 256 ^ i * c ∧ wr.ownsRow w2.heap.size 3 1 ov L.length (ivs .i64 L) ∧ Below w2.heap.size w2 wr) (fun _ _ iv _ => lx - (intOf iv).toNat)
  case atStart => exact ⟨0, 0, [], rfl, rfl, Nat.zero_le _, by omega, rfl, fun x hx => (by cases hx), by simp [vb_nil], World.ownsRow_nil _ _ _ _, Below.refl _ _⟩
  case round =>
    obtain ⟨i, c, L, rfl, rfl, hil, hc1, hLl, hLs, hinv, hown, hBr⟩ := hrel
    replace hLl := Lib.hid hLl
    replace hLs := Lib.hid hLs
    replace hinv := Lib.hid hinv
    replace hown := Lib.hid hown
    by_cases h0 : i < lx
    · have h0I : (i : Int) < (lx : Int) := by omega
      obtain ⟨x, hgx⟩ : ∃ x, X[i]? = some x := ⟨_, List.getElem?_eq_getElem (by rw [← hlx.out]; exact h0)⟩
      have hxs : x < 256 := hXs.out x (List.mem_of_getElem? hgx)
      obtain ⟨y, hgy, hys⟩ : ∃ y, (Y[i]? = some y ∨ (Y.length ≤ i ∧ y = 0)) ∧ y < 256 := by
        by_cases h : i < Y.length
        · exact ⟨Y[i], .inl (List.getElem?_eq_getElem h), hYs.out _ (List.getElem_mem h)⟩
        · exact ⟨0, .inr ⟨by omega, rfl⟩, by omega⟩
      obtain ⟨ga, oa, ca, La, ea, -, -, hAa, hLa⟩ := hx.out.open_ (fun e => by rw [e] at hgx; simp at hgx)
      injection ea with ea1 _ ea2
      subst ea1 ea2
      have hcx : wr.cell? ⟨ga, oa + i, none⟩ = some (.int .i64 (x : Int)) := (hBr.cell (p := ⟨ga, oa + i, none⟩) hAa.lt).trans (hAa.cell (hLa _ _ hgx))
      have hyr := Lib.hid (hy.out.below hBr)
      obtain ⟨D, hD⟩ : ∃ D : Int, D = (x : Int) - (y : Int) - (c : Int) := ⟨_, rfl⟩
      have hDi : (x : Int) - (y : Int) - (c : Int) = D := hD.symm
      have hD1 : -256 ≤ D := by omega
      obtain ⟨Q, hQ⟩ : ∃ Q : Int, Q = (x : Int) - (y : Int) := ⟨_, rfl⟩
      have hQi : (x : Int) - (y : Int) = Q := hQ.symm
      have hQDi : Q - (c : Int) = D := by omega
      have hQw : IntKind.i64.wrap Q = Q := by rw [IntKind.wrap_i64]; omega
      have hDw : IntKind.i64.wrap D = D := by rw [IntKind.wrap_i64]; omega
      have hD2 : D ≤ 255 := by omega
      have hkey : ∀ (e c' : Nat), (e : Int) = D + 256 * (c' : Int) → vb (L ++ [e]) + vb (Y.take (i + 1)) = vb (X.take (i + 1)) + 256 ^ (i + 1) * c' := fun e c' he => by
        have h1 : e + y + c = x + 256 * c' := by omega
        rw [vb_snoc, hLl.out, vb_take2 hgy, vb_take hgx, Nat.pow_succ]
        have h2 : 256 ^ i * e + 256 ^ i * y + 256 ^ i * c = 256 ^ i * x + 256 ^ i * 256 * c' := by
          rw [← Nat.mul_add, ← Nat.mul_add, h1, Nat.mul_add, Nat.mul_assoc]
        have h3 := hinv.out
        omega
      replace hkey := Lib.hid hkey
      have hgy' := Lib.hid hgy
      have hi62 : i < 4611686018427387904 := by omega
      replace hBr := Lib.hid hBr
      clear hgx hgy hAa hLa hinv hD hDi hQ
      have hLln : L.length = i := hLl.out
      by_cases hneg : D < 0
      · obtain ⟨e, he⟩ : ∃ e : Nat, (e : Int) = D + 256 := ⟨(D + 256).toNat, by omega⟩
        have hei : D + 256 = (e : Int) := he.symm
        have hk2 := Lib.hid (hkey.out e 1 (by omega))
        have hes : e < 256 := by omega
        have hLs2 : Hid (∀ z, z ∈ L ++ [e] → z < 256) := Lib.hid (fun z hz => by
          rcases List.mem_append.1 hz with h | h
          · exact hLs.out z h
          · rw [List.mem_singleton.1 h]; exact hes)
        clear he hkey
        go_wp2_with fail
        go_quiet ((go_at_call 100; exact quiet_dr (rat_any _ Y i y _ hyr.out hgy'.out hi62)))
        obtain ⟨wn, hwn⟩ : ∃ wn, wn = wr.drewN nq := ⟨_, rfl⟩
        rw [← hwn]
        have hown1 := own_drewN hown.out nq
        rw [← hwn] at hown1
        have hBn : Below w2.heap.size w2 wn := by rw [hwn]; exact below_drewN hBr.out nq
        replace hown1 := Lib.hid hown1
        replace hBn := Lib.hid hBn
        clear hwn hown hBr hcx
        go_wp2_with (at_builtin; refine wpList_append_own _ rfl _ _ 138 rfl w2.heap.size 3 i0 (.int .i64 0) 1 8 Try.underlying138 hi hz0 hz1 hz2 rfl (by decide) _ _ _ rfl (hown1.out.alloc _) ⟨wn.heap.size, 0, none⟩ 1 1 [.int .i64 (e : Int)] rfl rfl ?d1 ?d2 ?d3 ?d4 ?d5 ?_)
        case d1 =>
          intro j u hj
          match j, hj with
          | 0, hj => simp at hj; subst hj; simp [Addr.add]
        case d2 => intro u hu; simp at hu; rw [hu]; rfl
        case d3 => unfold maxLen; omega
        case d4 => omega
        case d5 => have := hBn.out.size; simp; omega
        intro v' w3 hown' hgrow _
        have hB3 : Below w2.heap.size w2 w3 := (hBn.out.alloc hBn.out.size _).grown hgrow (by have := hBn.out.size; simp; omega) (fun k hk => (hown1.out.lt k hk).1)
        have hown2 : w3.ownsRow w2.heap.size 3 1 v' (L ++ [e]).length (ivs .i64 (L ++ [e])) := by rw [ivs_append, List.length_append, hLl.out]; exact hown'
        replace hB3 := Lib.hid hB3
        replace hown2 := Lib.hid hown2
        clear hown' hgrow hown1 hBn
        go_wp2_with fail
        go_roundw
        case rel => exact ⟨i + 1, 1, L ++ [e], by go_num, rfl, by omega, by omega, by rw [List.length_append, hLl.out]; rfl, hLs2.out, hk2.out, hown2.out, hB3.out⟩
        case measure => simp [intOf]; omega
      · obtain ⟨e, he⟩ : ∃ e : Nat, (e : Int) = D := ⟨D.toNat, by omega⟩
        have hk2 := Lib.hid (hkey.out e 0 (by omega))
        have hes : e < 256 := by omega
        have hLs2 : Hid (∀ z, z ∈ L ++ [e] → z < 256) := Lib.hid (fun z hz => by
          rcases List.mem_append.1 hz with h | h
          · exact hLs.out z h
          · rw [List.mem_singleton.1 h]; exact hes)
        subst he
        clear hkey
        go_wp2_with fail
        go_quiet ((go_at_call 100; exact quiet_dr (rat_any _ Y i y _ hyr.out hgy'.out hi62)))
        obtain ⟨wn, hwn⟩ : ∃ wn, wn = wr.drewN nq := ⟨_, rfl⟩
        rw [← hwn]
        have hown1 := own_drewN hown.out nq
        rw [← hwn] at hown1
        have hBn : Below w2.heap.size w2 wn := by rw [hwn]; exact below_drewN hBr.out nq
        replace hown1 := Lib.hid hown1
        replace hBn := Lib.hid hBn
        clear hwn hown hBr hcx
        go_wp2_with (at_builtin; refine wpList_append_own _ rfl _ _ 138 rfl w2.heap.size 3 i0 (.int .i64 0) 1 8 Try.underlying138 hi hz0 hz1 hz2 rfl (by decide) _ _ _ rfl (hown1.out.alloc _) ⟨wn.heap.size, 0, none⟩ 1 1 [.int .i64 (e : Int)] rfl rfl ?d1 ?d2 ?d3 ?d4 ?d5 ?_)
        case d1 =>
          intro j u hj
          match j, hj with
          | 0, hj => simp at hj; subst hj; simp [Addr.add]
        case d2 => intro u hu; simp at hu; rw [hu]; rfl
        case d3 => unfold maxLen; omega
        case d4 => omega
        case d5 => have := hBn.out.size; simp; omega
        intro v' w3 hown' hgrow _
        have hB3 : Below w2.heap.size w2 w3 := (hBn.out.alloc hBn.out.size _).grown hgrow (by have := hBn.out.size; simp; omega) (fun k hk => (hown1.out.lt k hk).1)
        have hown2 : w3.ownsRow w2.heap.size 3 1 v' (L ++ [e]).length (ivs .i64 (L ++ [e])) := by rw [ivs_append, List.length_append, hLl.out]; exact hown'
        replace hB3 := Lib.hid hB3
        replace hown2 := Lib.hid hown2
        clear hown' hgrow hown1 hBn
        go_wp2_with fail
        go_roundw
        case rel => exact ⟨i + 1, 0, L ++ [e], by go_num, rfl, by omega, by omega, by rw [List.length_append, hLl.out]; rfl, hLs2.out, hk2.out, hown2.out, hB3.out⟩
        case measure => simp [intOf]; omega
    · obtain rfl : i = lx := by omega
      have h0I : ¬ (i : Int) < (i : Int) := by omega
      have hfin : Hid (madeS L = r) := Lib.hid (by
        have h1 := hinv.out
        rw [List.take_of_length_le (by omega), hlx.out, List.take_length, hXv.out, hYv.out, ← hlx.out] at h1
        have h2 := vb_lt hLs.out
        rw [hLl.out] at h2
        have h3 : c = 0 := by
          rcases Nat.eq_zero_or_pos c with h | h
          · exact h
          · have h4 : 256 ^ i * 1 ≤ 256 ^ i * c := Nat.mul_le_mul_left _ h
            omega
        rw [h3, Nat.mul_zero] at h1
        show natS (vb L) = r
        rw [hr.out]
        congr 1
        omega)
      have hrd := Lib.hid (rd_own hown.out)
      replace hBr := Lib.hid hBr
      have hLln : L.length = i := hLl.out
      clear hinv hown
      go_wp2_with fail
      refine (made_any _ L _ hrd.out hLs.out (by omega)).mono ?_
      rintro e w4 ⟨rfl, hb⟩
      rw [hfin.out]
      have hB3 := hBr.out.trans (hb.mono hBr.out.size)
      have hB4 := Lib.hid (hB.out.trans (hB3.mono hB.out.size))
      clear hb hB3
      go_wp2_with fail
      go_ret2
      exact ⟨rfl, hB4.out⟩
end Go.Proofs.Ytciafmnideihjaa
