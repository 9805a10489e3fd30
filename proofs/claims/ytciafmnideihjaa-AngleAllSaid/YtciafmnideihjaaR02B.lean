/- The document's numbers (filigreeref02): Cmp, Sub, Pow. -/
import Derived.Test.YtciafmnideihjaaR02A
namespace Go.Proofs.Ytciafmnideihjaa
open Go.RowKit Go.Sort

theorem nb_len_lt {a b : Nat} (h : (nb a).length < (nb b).length) : a < b := by
  have hb : 0 < b := by
    rcases Nat.eq_zero_or_pos b with h0 | h0
    · rw [h0, nb_zero] at h; simp at h
    · exact h0
  have h1 := (nb_bounds hb).1
  rcases Nat.eq_zero_or_pos a with h0 | h0
  · omega
  · have h2 := (nb_bounds h0).2
    have h3 : 256 ^ (nb a).length ≤ 256 ^ ((nb b).length - 1) := Nat.pow_le_pow_right (by omega) (by omega)
    omega
theorem nb_len_mono {a b : Nat} (h : a ≤ b) : (nb a).length ≤ (nb b).length := by
  rcases Nat.lt_or_ge (nb b).length (nb a).length with h1 | h1
  · have := nb_len_lt h1; omega
  · exact h1
theorem be_split {L : List Nat} {i x : Nat} (h : L[i]? = some x) : be L = be (L.take i) * 256 ^ (L.length - i) + (x * 256 ^ (L.length - i - 1) + be (L.drop (i + 1))) := by
  have hlt := lt_of_getElem? h
  have e : L[i] = x := by rw [List.getElem?_eq_getElem hlt] at h; exact Option.some.inj h
  conv => lhs; rw [← List.take_append_drop i L]
  rw [be_append, List.length_drop, List.drop_eq_getElem_cons hlt, e, show x :: L.drop (i + 1) = [x] ++ L.drop (i + 1) from rfl, be_append, List.length_drop]
  congr 2
  rw [show be [x] = x by simp [be]]
  congr 2
theorem be_less {L M : List Nat} {i x y : Nat} (hM : ∀ z, z ∈ L → z < 256) (hl : L.length = M.length) (ht : L.take i = M.take i) (hx : L[i]? = some x) (hy : M[i]? = some y) (h : x < y) : be L < be M := by
  have e1 := be_split hx
  have e2 := be_split hy
  have hlt := lt_of_getElem? hx
  rw [← ht, ← hl] at e2
  have e3 := be_lt (l := L.drop (i + 1)) (fun z hz => hM z (List.mem_of_mem_drop hz))
  rw [List.length_drop, show L.length - (i + 1) = L.length - i - 1 by omega] at e3
  rw [e1, e2]
  have e4 : (x + 1) * 256 ^ (L.length - i - 1) ≤ y * 256 ^ (L.length - i - 1) := Nat.mul_le_mul_right _ h
  rw [Nat.add_mul, Nat.one_mul] at e4
  omega

set_option maxRecDepth 100000 in
set_option maxHeartbeats 1000000 in
/-- filigreeref02.Cmp -/
theorem rcmp02_any (a b : Nat) (w : World) (ha : (nb a).length ≤ 1073741824) (hb : (nb b).length ≤ 1073741824) :
    Calls Try.prog 68 #[.string (natS a), .string (natS b)] w fun e w' => e = .returned (.int .i64 (cmpI a b)) ∧ Dr w w' := by
  obtain ⟨s, hs⟩ : ∃ s, s = natS a := ⟨_, rfl⟩
  obtain ⟨t, ht⟩ : ∃ t, t = natS b := ⟨_, rfl⟩
  have z1 : s.size = (nb a).length := by rw [hs, natS_size]
  have z2 : t.size = (nb b).length := by rw [ht, natS_size]
  have v1 : be (sl s) = a := by rw [hs, be_natS]
  have v2 : be (sl t) = b := by rw [ht, be_natS]
  rw [← hs, ← ht]
  have hsz : s.size ≤ 1073741824 := by omega
  have htz : t.size ≤ 1073741824 := by omega
  rcases Nat.lt_trichotomy s.size t.size with h | h | h
  · have hc : Hid (cmpI a b = -1) := Lib.hid (by unfold cmpI; rw [if_pos (nb_len_lt (by omega))])
    have hI : ((s.size : Int) == (t.size : Int)) = false := by simp; omega
    have hI2 : (s.size : Int) < (t.size : Int) := by omega
    clear hs ht z1 z2 v1 v2
    go_enter Try.func68, Try.ntmps68
    go_wp2_with fail
    go_ret
    exact ⟨by rw [hc.out]; rfl, Dr.refl _⟩
  rotate_left
  · have hc : Hid (cmpI a b = 1) := Lib.hid (by
      have := nb_len_lt (a := b) (b := a) (by omega)
      unfold cmpI; rw [if_neg (by omega), if_pos this])
    have hI : ((s.size : Int) == (t.size : Int)) = false := by simp; omega
    have hI2 : ¬ (s.size : Int) < (t.size : Int) := by omega
    clear hs ht z1 z2 v1 v2
    go_enter Try.func68, Try.ntmps68
    go_wp2_with fail
    go_ret
    exact ⟨by rw [hc.out]; rfl, Dr.refl _⟩
  have hI : ((s.size : Int) == (t.size : Int)) = true := by simp; omega
  have hl : (sl s).length = (sl t).length := by rw [sl_len, sl_len, h]
  replace hl := Lib.hid hl
  replace v1 := Lib.hid v1
  replace v2 := Lib.hid v2
  clear hs ht z1 z2
  go_enter Try.func68, Try.ntmps68
  go_wp2_with fail
  go_loopw [5] (fun iv wr => ∃ i : Nat, iv = .int .i64 (i : Int) ∧ i ≤ s.size ∧ (sl s).take i = (sl t).take i ∧ Dr w wr) (fun iv _ => s.size - (intOf iv).toNat)
  case atStart => exact ⟨0, rfl, Nat.zero_le _, rfl, Dr.refl _⟩
  case round =>
    obtain ⟨i, rfl, hi, htk, nd, rfl⟩ := hrel
    by_cases h0 : i < s.size
    · have h0I : (i : Int) < (s.size : Int) := by omega
      have h0t : i < t.size := by omega
      have h0I2 : (i : Int) < (t.size : Int) := by omega
      obtain ⟨x, hx⟩ : ∃ x, x = (s[i]'h0).toNat := ⟨_, rfl⟩
      obtain ⟨y, hy⟩ : ∃ y, y = (t[i]'h0t).toNat := ⟨_, rfl⟩
      have hxi : ((s[i]'h0).toNat : Int) = (x : Int) := by rw [hx]
      have hyi : ((t[i]'h0t).toNat : Int) = (y : Int) := by rw [hy]
      have gx := sl_get s i h0
      have gy := sl_get t i h0t
      rw [← hx] at gx
      rw [← hy] at gy
      rcases Nat.lt_trichotomy x y with hxy | hxy | hxy
      · have hc : Hid (cmpI a b = -1) := Lib.hid (by
          have := be_less (sl_lt s) hl.out htk gx gy hxy
          rw [v1.out, v2.out] at this
          unfold cmpI; rw [if_pos this])
        have hxI : (x : Int) < (y : Int) := by omega
        clear hx hy gx gy htk
        go_wp2_with fail
        go_quiet (fail)
        go_wp2_with fail
        go_ret
        exact ⟨by rw [hc.out]; rfl, by repeat (first | exact Dr.refl _ | apply Dr.drewN)⟩
      · have hxI : ¬ (x : Int) < (y : Int) := by omega
        have hxI2 : ¬ (y : Int) < (x : Int) := by omega
        have htk2 : Hid ((sl s).take (i + 1) = (sl t).take (i + 1)) := Lib.hid (by
          have l1 := lt_of_getElem? gx
          have l2 := lt_of_getElem? gy
          rw [List.take_succ_eq_append_getElem l1, List.take_succ_eq_append_getElem l2, htk]
          rw [List.getElem?_eq_getElem l1] at gx
          rw [List.getElem?_eq_getElem l2] at gy
          rw [Option.some.inj gx, Option.some.inj gy, hxy])
        clear hx hy gx gy htk hxy
        go_wp2_with fail
        go_quiet (fail)
        go_wp2_with fail
        go_quiet (fail)
        go_wp2_with fail
        go_roundw
        case rel => exact ⟨i + 1, by go_num, by omega, htk2.out, by repeat (first | exact Dr.refl _ | apply Dr.drewN)⟩
        case measure => simp [intOf]; omega
      · have hc : Hid (cmpI a b = 1) := Lib.hid (by
          have := be_less (sl_lt t) hl.out.symm htk.symm gy gx hxy
          rw [v1.out, v2.out] at this
          unfold cmpI; rw [if_neg (by omega), if_pos this])
        have hxI : ¬ (x : Int) < (y : Int) := by omega
        have hxI2 : (y : Int) < (x : Int) := by omega
        clear hx hy gx gy htk
        go_wp2_with fail
        go_quiet (fail)
        go_wp2_with fail
        go_quiet (fail)
        go_wp2_with fail
        go_ret
        exact ⟨by rw [hc.out]; rfl, by repeat (first | exact Dr.refl _ | apply Dr.drewN)⟩
    · have hie : i = s.size := by omega
      have h0I : ¬ (i : Int) < (s.size : Int) := by omega
      have hc : Hid (cmpI a b = 0) := Lib.hid (by
        rw [hie, ← sl_len, List.take_length, hl.out, List.take_length] at htk
        have : a = b := by rw [← v1.out, ← v2.out, htk]
        unfold cmpI; rw [if_neg (by omega), if_neg (by omega)])
      clear htk
      go_wp2_with fail
      go_ret
      exact ⟨by rw [hc.out]; rfl, (Dr.refl _).drewN _⟩

theorem own_drewN {w : World} {base : Nat} {T : TypeId} {size : Nat} {v : Value} {n : Nat} {xs : List Value} (h : w.ownsRow base T size v n xs) (m : Nat) : (w.drewN m).ownsRow base T size v n xs := h
theorem vb_take2 {l : List Nat} {k x : Nat} (h : l[k]? = some x ∨ (l.length ≤ k ∧ x = 0)) : vb (l.take (k + 1)) = vb (l.take k) + 256 ^ k * x := by
  rcases h with h | ⟨h, rfl⟩
  · exact vb_take h
  · rw [List.take_of_length_le (by omega), List.take_of_length_le h]; omega
theorem vb_nb (a : Nat) : vb (nb a) = a := by
  have := be_natL a
  unfold natL at this
  exact this

set_option maxRecDepth 100000 in
set_option maxHeartbeats 2000000 in
/-- filigreeref02.Sub -/
theorem rsub_any (a b : Nat) (w : World) (hba : b ≤ a) (ha : (nb a).length ≤ 1073741000) :
    Calls Try.prog 70 #[.string (natS a), .string (natS b)] w (RetVal (.tuple #[.string (natS (a - b)), .int .i64 0]) w) := by
  obtain ⟨i0, hi, hz0, hz1, hz2⟩ := info_parts info_int
  have hlb := nb_len_mono hba
  have kc := rcmp02_any a b w (by omega) (by omega)
  have hcv : cmpI a b = 0 ∨ cmpI a b = 1 := by
    unfold cmpI
    rw [if_neg (by omega)]
    split
    · exact .inr rfl
    · exact .inl rfl
  obtain ⟨cm, hcm⟩ : ∃ cm, cm = cmpI a b := ⟨_, rfl⟩
  rw [← hcm] at kc hcv
  have hcm0 : ¬ cm < 0 := by omega
  have d1 : ∀ W, Calls Try.prog 99 #[.string (natS a)] W (RetDig (nb a) W) := fun W => by
    have h := rdigits_any (natS a) W (by rw [natS_size]; omega)
    rw [sl_natS] at h
    unfold natL at h
    rwa [List.reverse_reverse] at h
  have d2 : ∀ W, Calls Try.prog 99 #[.string (natS b)] W (RetDig (nb b) W) := fun W => by
    have h := rdigits_any (natS b) W (by rw [natS_size]; omega)
    rw [sl_natS] at h
    unfold natL at h
    rwa [List.reverse_reverse] at h
  obtain ⟨X, hX⟩ : ∃ X, X = nb a := ⟨_, rfl⟩
  obtain ⟨Y, hY⟩ : ∃ Y, Y = nb b := ⟨_, rfl⟩
  have hXv : Hid (vb X = a) := Lib.hid (by rw [hX, vb_nb])
  have hYv : Hid (vb Y = b) := Lib.hid (by rw [hY, vb_nb])
  have hXs : Hid (∀ x, x ∈ X → x < 256) := Lib.hid (by rw [hX]; exact fun x hx => nb_lt x hx)
  have hYs : Hid (∀ x, x ∈ Y → x < 256) := Lib.hid (by rw [hY]; exact fun x hx => nb_lt x hx)
  rw [← hX] at d1 hlb ha
  rw [← hY] at d2 hlb
  obtain ⟨s, hs⟩ : ∃ s, s = natS a := ⟨_, rfl⟩
  obtain ⟨t, ht⟩ : ∃ t, t = natS b := ⟨_, rfl⟩
  rw [← hs, ← ht] at kc
  rw [← hs] at d1
  rw [← ht] at d2
  obtain ⟨r, hr⟩ : ∃ r, r = natS (a - b) := ⟨_, rfl⟩
  rw [← hs, ← ht, ← hr]
  obtain ⟨lx, hlx⟩ : ∃ lx, lx = X.length := ⟨_, rfl⟩
  rw [← hlx] at hlb ha
  replace hlx := Lib.hid hlx
  replace hr := Lib.hid hr
  replace kc := Lib.hid kc
  replace d1 := Lib.hid d1
  replace d2 := Lib.hid d2
  clear hX hY hs ht hcm hcv
  go_enter Try.func70, Try.ntmps70
  go_wp2_with fail
  refine kc.out.mono ?_
  rintro e w1 ⟨rfl, nd, rfl⟩
  clear kc
  go_wp2_with fail
  refine (d1.out _).mono ?_
  rintro e w1 ⟨vx, rfl, hx, hB1⟩
  replace hB1 : Hid (Below w.heap.size w w1) := Lib.hid ((below_drewN (Below.refl _ w) nd).trans hB1)
  replace hx := Lib.hid hx
  clear d1
  go_wp2_with fail
  refine (d2.out _).mono ?_
  rintro e w2 ⟨vy, rfl, hy, hB2⟩
  replace hx := Lib.hid (hx.out.below hB2)
  have hB := Lib.hid (hB1.out.trans (hB2.mono hB1.out.size))
  replace hy := Lib.hid hy
  clear hB2 hB1 d2
  obtain ⟨Ax, cx, rfl, x1, x2, -⟩ := id hx.out
  obtain ⟨Ay, cy, rfl, y1, y2, -⟩ := id hy.out
  rw [← hlx.out] at x1 ⊢
  go_wp2_with fail
  go_loopw [8, 9, 10] (fun ov lv iv wr => ∃ (i c : Nat) (L : List Nat), iv = .int .i64 (i : Int) ∧ lv = .int .i64 (c : Int) ∧ i ≤ lx ∧ c ≤ 1 ∧ L.length = i ∧ (∀ x, x ∈ L → x < 256) ∧ vb L + vb (Y.take i) = vb (X.take i) + 256 ^ i * c ∧ wr.ownsRow w2.heap.size 3 1 ov L.length (ivs .i64 L) ∧ Below w2.heap.size w2 wr) (fun _ _ iv _ => lx - (intOf iv).toNat)
  case atStart => exact ⟨0, 0, [], rfl, rfl, Nat.zero_le _, by omega, rfl, fun x hx => (by cases hx), by simp [vb_nil], World.ownsRow_nil _ _ _ _, Below.refl _ _⟩
  case round =>
    obtain ⟨i, c, L, rfl, rfl, hil, hc1, hLl, hLs, hinv, hown, hBr⟩ := hrel
    replace hLl := Lib.hid hLl
    replace hLs := Lib.hid hLs
    replace hinv := Lib.hid hinv
    replace hown := Lib.hid hown
    by_cases h0 : i < lx
    · have h0I : (i : Int) < (lx : Int) := by omega
      obtain ⟨x, hgx⟩ : ∃ x, X[i]? = some x := ⟨_, List.getElem?_eq_getElem (by rw [← hlx.out]; exact h0)⟩
      have hxs : x < 256 := hXs.out x (List.mem_of_getElem? hgx)
      obtain ⟨y, hgy, hys⟩ : ∃ y, (Y[i]? = some y ∨ (Y.length ≤ i ∧ y = 0)) ∧ y < 256 := by
        by_cases h : i < Y.length
        · exact ⟨Y[i], .inl (List.getElem?_eq_getElem h), hYs.out _ (List.getElem_mem h)⟩
        · exact ⟨0, .inr ⟨by omega, rfl⟩, by omega⟩
      obtain ⟨ga, oa, ca, La, ea, -, -, hAa, hLa⟩ := hx.out.open_ (fun e => by rw [e] at hgx; simp at hgx)
      injection ea with ea1 _ ea2
      subst ea1 ea2
      have hcx : wr.cell? ⟨ga, oa + i, none⟩ = some (.int .i64 (x : Int)) := (hBr.cell (p := ⟨ga, oa + i, none⟩) hAa.lt).trans (hAa.cell (hLa _ _ hgx))
      have hyr := Lib.hid (hy.out.below hBr)
      obtain ⟨D, hD⟩ : ∃ D : Int, D = (x : Int) - (y : Int) - (c : Int) := ⟨_, rfl⟩
      have hDi : (x : Int) - (y : Int) - (c : Int) = D := hD.symm
      have hD1 : -256 ≤ D := by omega
      obtain ⟨Q, hQ⟩ : ∃ Q : Int, Q = (x : Int) - (y : Int) := ⟨_, rfl⟩
      have hQi : (x : Int) - (y : Int) = Q := hQ.symm
      have hQDi : Q - (c : Int) = D := by omega
      have hQw : IntKind.i64.wrap Q = Q := by rw [IntKind.wrap_i64]; omega
      have hDw : IntKind.i64.wrap D = D := by rw [IntKind.wrap_i64]; omega
      have hD2 : D ≤ 255 := by omega
      have hkey : ∀ (e c' : Nat), (e : Int) = D + 256 * (c' : Int) → vb (L ++ [e]) + vb (Y.take (i + 1)) = vb (X.take (i + 1)) + 256 ^ (i + 1) * c' := fun e c' he => by
        have h1 : e + y + c = x + 256 * c' := by omega
        rw [vb_snoc, hLl.out, vb_take2 hgy, vb_take hgx, Nat.pow_succ]
        have h2 : 256 ^ i * e + 256 ^ i * y + 256 ^ i * c = 256 ^ i * x + 256 ^ i * 256 * c' := by
          rw [← Nat.mul_add, ← Nat.mul_add, h1, Nat.mul_add, Nat.mul_assoc]
        have h3 := hinv.out
        omega
      replace hkey := Lib.hid hkey
      have hgy' := Lib.hid hgy
      have hi62 : i < 4611686018427387904 := by omega
      replace hBr := Lib.hid hBr
      clear hgx hgy hAa hLa hinv hD hDi hQ
      have hLln : L.length = i := hLl.out
      by_cases hneg : D < 0
      · obtain ⟨e, he⟩ : ∃ e : Nat, (e : Int) = D + 256 := ⟨(D + 256).toNat, by omega⟩
        have hei : D + 256 = (e : Int) := he.symm
        have hk2 := Lib.hid (hkey.out e 1 (by omega))
        have hes : e < 256 := by omega
        have hLs2 : Hid (∀ z, z ∈ L ++ [e] → z < 256) := Lib.hid (fun z hz => by
          rcases List.mem_append.1 hz with h | h
          · exact hLs.out z h
          · rw [List.mem_singleton.1 h]; exact hes)
        clear he hkey
        go_wp2_with fail
        go_quiet ((go_at_call 100; exact quiet_dr (rat_any _ Y i y _ hyr.out hgy'.out hi62)))
        obtain ⟨wn, hwn⟩ : ∃ wn, wn = wr.drewN nq := ⟨_, rfl⟩
        rw [← hwn]
        have hown1 := own_drewN hown.out nq
        rw [← hwn] at hown1
        have hBn : Below w2.heap.size w2 wn := by rw [hwn]; exact below_drewN hBr.out nq
        replace hown1 := Lib.hid hown1
        replace hBn := Lib.hid hBn
        clear hwn hown hBr hcx
        go_wp2_with (at_builtin; refine wpList_append_own _ rfl _ _ 138 rfl w2.heap.size 3 i0 (.int .i64 0) 1 8 Try.underlying138 hi hz0 hz1 hz2 rfl (by decide) _ _ _ rfl (hown1.out.alloc _) ⟨wn.heap.size, 0, none⟩ 1 1 [.int .i64 (e : Int)] rfl rfl ?d1 ?d2 ?d3 ?d4 ?d5 ?_)
        case d1 =>
          intro j u hj
          match j, hj with
          | 0, hj => simp at hj; subst hj; simp [Addr.add]
        case d2 => intro u hu; simp at hu; rw [hu]; rfl
        case d3 => unfold maxLen; omega
        case d4 => omega
        case d5 => have := hBn.out.size; simp; omega
        intro v' w3 hown' hgrow _
        have hB3 : Below w2.heap.size w2 w3 := (hBn.out.alloc hBn.out.size _).grown hgrow (by have := hBn.out.size; simp; omega) (fun k hk => (hown1.out.lt k hk).1)
        have hown2 : w3.ownsRow w2.heap.size 3 1 v' (L ++ [e]).length (ivs .i64 (L ++ [e])) := by rw [ivs_append, List.length_append, hLl.out]; exact hown'
        replace hB3 := Lib.hid hB3
        replace hown2 := Lib.hid hown2
        clear hown' hgrow hown1 hBn
        go_wp2_with fail
        go_roundw
        case rel => exact ⟨i + 1, 1, L ++ [e], by go_num, rfl, by omega, by omega, by rw [List.length_append, hLl.out]; rfl, hLs2.out, hk2.out, hown2.out, hB3.out⟩
        case measure => simp [intOf]; omega
      · obtain ⟨e, he⟩ : ∃ e : Nat, (e : Int) = D := ⟨D.toNat, by omega⟩
        have hk2 := Lib.hid (hkey.out e 0 (by omega))
        have hes : e < 256 := by omega
        have hLs2 : Hid (∀ z, z ∈ L ++ [e] → z < 256) := Lib.hid (fun z hz => by
          rcases List.mem_append.1 hz with h | h
          · exact hLs.out z h
          · rw [List.mem_singleton.1 h]; exact hes)
        subst he
        clear hkey
        go_wp2_with fail
        go_quiet ((go_at_call 100; exact quiet_dr (rat_any _ Y i y _ hyr.out hgy'.out hi62)))
        obtain ⟨wn, hwn⟩ : ∃ wn, wn = wr.drewN nq := ⟨_, rfl⟩
        rw [← hwn]
        have hown1 := own_drewN hown.out nq
        rw [← hwn] at hown1
        have hBn : Below w2.heap.size w2 wn := by rw [hwn]; exact below_drewN hBr.out nq
        replace hown1 := Lib.hid hown1
        replace hBn := Lib.hid hBn
        clear hwn hown hBr hcx
        go_wp2_with (at_builtin; refine wpList_append_own _ rfl _ _ 138 rfl w2.heap.size 3 i0 (.int .i64 0) 1 8 Try.underlying138 hi hz0 hz1 hz2 rfl (by decide) _ _ _ rfl (hown1.out.alloc _) ⟨wn.heap.size, 0, none⟩ 1 1 [.int .i64 (e : Int)] rfl rfl ?d1 ?d2 ?d3 ?d4 ?d5 ?_)
        case d1 =>
          intro j u hj
          match j, hj with
          | 0, hj => simp at hj; subst hj; simp [Addr.add]
        case d2 => intro u hu; simp at hu; rw [hu]; rfl
        case d3 => unfold maxLen; omega
        case d4 => omega
        case d5 => have := hBn.out.size; simp; omega
        intro v' w3 hown' hgrow _
        have hB3 : Below w2.heap.size w2 w3 := (hBn.out.alloc hBn.out.size _).grown hgrow (by have := hBn.out.size; simp; omega) (fun k hk => (hown1.out.lt k hk).1)
        have hown2 : w3.ownsRow w2.heap.size 3 1 v' (L ++ [e]).length (ivs .i64 (L ++ [e])) := by rw [ivs_append, List.length_append, hLl.out]; exact hown'
        replace hB3 := Lib.hid hB3
        replace hown2 := Lib.hid hown2
        clear hown' hgrow hown1 hBn
        go_wp2_with fail
        go_roundw
        case rel => exact ⟨i + 1, 0, L ++ [e], by go_num, rfl, by omega, by omega, by rw [List.length_append, hLl.out]; rfl, hLs2.out, hk2.out, hown2.out, hB3.out⟩
        case measure => simp [intOf]; omega
    · obtain rfl : i = lx := by omega
      have h0I : ¬ (i : Int) < (i : Int) := by omega
      have hfin : Hid (madeS L = r) := Lib.hid (by
        have h1 := hinv.out
        rw [List.take_of_length_le (by omega), hlx.out, List.take_length, hXv.out, hYv.out, ← hlx.out] at h1
        have h2 := vb_lt hLs.out
        rw [hLl.out] at h2
        have h3 : c = 0 := by
          rcases Nat.eq_zero_or_pos c with h | h
          · exact h
          · have h4 : 256 ^ i * 1 ≤ 256 ^ i * c := Nat.mul_le_mul_left _ h
            omega
        rw [h3, Nat.mul_zero] at h1
        show natS (vb L) = r
        rw [hr.out]
        congr 1
        omega)
      have hrd := Lib.hid (rd_own hown.out)
      replace hBr := Lib.hid hBr
      have hLln : L.length = i := hLl.out
      clear hinv hown
      go_wp2_with fail
      refine (made_any _ L _ hrd.out hLs.out (by omega)).mono ?_
      rintro e w4 ⟨rfl, hb⟩
      rw [hfin.out]
      have hB3 := hBr.out.trans (hb.mono hBr.out.size)
      have hB4 := Lib.hid (hB.out.trans (hB3.mono hB.out.size))
      clear hb hB3
      go_wp2_with fail
      go_ret2
      exact ⟨rfl, hB4.out⟩
end Go.Proofs.Ytciafmnideihjaa
