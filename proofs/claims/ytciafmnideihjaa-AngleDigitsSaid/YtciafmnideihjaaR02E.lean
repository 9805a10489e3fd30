/- The document's numbers (filigreeref02): plus, Add. -/
import Derived.Test.YtciafmnideihjaaR02C
namespace Go.Proofs.Ytciafmnideihjaa
open Go.RowKit Go.Sort

set_option maxRecDepth 100000 in
set_option maxHeartbeats 400000 in
/-- filigreeref02.at, the world as it was. -/
theorem rat_same (v : Value) (l : List Nat) (i x : Nat) (w : World) (h : Rd .i64 3 w v l) (hx : l[i]? = some x ∨ (l.length ≤ i ∧ x = 0)) (_ : i < 4611686018427387904) :
    Calls Try.prog 100 #[v, .int .i64 (i : Int)] w fun e w' => e = .returned (.int .i64 (x : Int)) ∧ w = w' := by
  obtain ⟨A, c, rfl, h1, h2, h3⟩ := id h
  obtain ⟨L, hL⟩ : ∃ L, L = l.length := ⟨_, rfl⟩
  rw [← hL] at h1 ⊢
  rcases hx with hx | ⟨hx, rfl⟩
  · have hlt := lt_of_getElem? hx
    obtain ⟨ga, oa, ca, La, ea, -, -, hAa, hLa⟩ := h.open_ (fun e => by rw [e] at hlt; simp at hlt)
    injection ea with ea1 _ ea2
    subst ea1 ea2
    have hcx : w.cell? ⟨ga, oa + i, none⟩ = some (.int .i64 (x : Int)) := hAa.cell (hLa _ _ hx)
    have hiI : (i : Int) < (L : Int) := by omega
    clear h h3 hx hAa hLa hL
    go_enter Try.func100, Try.ntmps100
    go_wp2_with fail
    go_ret
    exact ⟨rfl, rfl⟩
  · have hiI : ¬ (i : Int) < (L : Int) := by omega
    clear h h3
    go_enter Try.func100, Try.ntmps100
    go_wp2_with fail
    go_ret
    exact ⟨rfl, rfl⟩

theorem at_ex {X : List Nat} (hXs : ∀ x, x ∈ X → x < 256) (i : Nat) : ∃ x, (X[i]? = some x ∨ (X.length ≤ i ∧ x = 0)) ∧ x < 256 ∧ (X.length ≤ i → x = 0) := by
  by_cases h : i < X.length
  · exact ⟨X[i], .inl (List.getElem?_eq_getElem h), hXs _ (List.getElem_mem h), fun h' => by omega⟩
  · exact ⟨0, .inr ⟨by omega, rfl⟩, by omega, fun _ => rfl⟩
theorem pl_step {L X Y : List Nat} {i c x y : Nat} (hL : L.length = i) (hinv : vb L + 256 ^ i * c = vb (X.take i) + vb (Y.take i)) (hx : X[i]? = some x ∨ (X.length ≤ i ∧ x = 0)) (hy : Y[i]? = some y ∨ (Y.length ≤ i ∧ y = 0)) :
    vb (L ++ [(c + x + y) % 256]) + 256 ^ (i + 1) * ((c + x + y) / 256) = vb (X.take (i + 1)) + vb (Y.take (i + 1)) := by
  rw [vb_snoc, hL, vb_take2 hx, vb_take2 hy, Nat.pow_succ]
  obtain ⟨S, hS⟩ : ∃ S, S = c + x + y := ⟨_, rfl⟩
  rw [← hS]
  have h1 : 256 ^ i * S = 256 ^ i * (S % 256) + 256 ^ i * 256 * (S / 256) := by
    rw [Nat.mul_assoc, ← Nat.mul_add, Nat.mod_add_div]
  have h2 : 256 ^ i * S = 256 ^ i * c + 256 ^ i * x + 256 ^ i * y := by rw [hS, Nat.mul_add, Nat.mul_add]
  omega

set_option maxRecDepth 100000 in
set_option maxHeartbeats 2000000 in
/-- filigreeref02.plus -/
theorem rplus_any (a b : ByteArray) (w : World) (ha : a.size ≤ 536870000) (hb : b.size ≤ 536870000) :
    Calls Try.prog 110 #[.string a, .string b] w (RetVal (.string (natS (be (sl a) + be (sl b)))) w) := by
  obtain ⟨i0, hi, hz0, hz1, hz2⟩ := info_parts info_int
  obtain ⟨X, hX⟩ : ∃ X, X = (sl a).reverse := ⟨_, rfl⟩
  obtain ⟨Y, hY⟩ : ∃ Y, Y = (sl b).reverse := ⟨_, rfl⟩
  have hXs : ∀ x, x ∈ X → x < 256 := fun x hx => by rw [hX] at hx; exact sl_lt a x (List.mem_reverse.1 hx)
  have hYs : ∀ x, x ∈ Y → x < 256 := fun x hx => by rw [hY] at hx; exact sl_lt b x (List.mem_reverse.1 hx)
  have hXv : Hid (vb X = be (sl a)) := Lib.hid (by rw [hX, vb_rev])
  have hYv : Hid (vb Y = be (sl b)) := Lib.hid (by rw [hY, vb_rev])
  have hXl : X.length = a.size := by rw [hX, List.length_reverse, sl_len]
  have hYl : Y.length = b.size := by rw [hY, List.length_reverse, sl_len]
  have da := rdigits_any a w (by omega)
  have db : ∀ W, Calls Try.prog 99 #[.string b] W (RetDig Y W) := fun W => by rw [hY]; exact rdigits_any b W (by omega)
  rw [← hX] at da
  obtain ⟨lx, hlx⟩ : ∃ lx, lx = X.length := ⟨_, rfl⟩
  obtain ⟨ly, hly⟩ : ∃ ly, ly = Y.length := ⟨_, rfl⟩
  have hlxs : lx ≤ 536870000 := by omega
  have hlys : ly ≤ 536870000 := by omega
  replace hlx := Lib.hid hlx
  replace hly := Lib.hid hly
  replace hXs := Lib.hid hXs
  replace hYs := Lib.hid hYs
  replace da := Lib.hid da
  replace db := Lib.hid db
  clear hX hY hXl hYl
  go_enter Try.func110, Try.ntmps110
  go_wp2_with fail
  refine da.out.mono ?_
  rintro e w1 ⟨vx, rfl, hx, hB1⟩
  replace hx := Lib.hid hx
  replace hB1 := Lib.hid hB1
  go_wp2_with fail
  refine (db.out _).mono ?_
  rintro e w2 ⟨vy, rfl, hy, hB2⟩
  replace hx := Lib.hid (hx.out.below hB2)
  have hB := Lib.hid (hB1.out.trans (hB2.mono hB1.out.size))
  replace hy := Lib.hid hy
  clear hB2 hB1 da db
  obtain ⟨Ax, cx, rfl, x1, x2, -⟩ := id hx.out
  obtain ⟨Ay, cy, rfl, y1, y2, -⟩ := id hy.out
  rw [← hlx.out] at x1 hx ⊢
  rw [← hly.out] at y1 hy ⊢
  go_wp2_with fail
  go_loopw [7, 8, 9] (fun ov mv iv wr => ∃ (i c : Nat) (L : List Nat), iv = .int .i64 (i : Int) ∧ mv = .int .i64 (c : Int) ∧ c ≤ 1 ∧ (i ≤ max lx ly ∨ i = max lx ly + 1 ∧ c = 0) ∧ L.length = i ∧ (∀ x, x ∈ L → x < 256) ∧ vb L + 256 ^ i * c = vb (X.take i) + vb (Y.take i) ∧ wr.ownsRow w2.heap.size 3 1 ov L.length (ivs .i64 L) ∧ Below w2.heap.size w2 wr) (fun _ _ iv _ => max lx ly + 2 - (intOf iv).toNat)
  case atStart => exact ⟨0, 0, [], rfl, rfl, by omega, .inl (Nat.zero_le _), rfl, fun x hx => (by cases hx), by simp [vb_nil], World.ownsRow_nil _ _ _ _, Below.refl _ _⟩
  case round =>
    obtain ⟨i, c, L, rfl, rfl, hc1, him, hLl, hLs, hinv, hown, hBr⟩ := hrel
    replace hLl := Lib.hid hLl
    replace hLs := Lib.hid hLs
    replace hinv := Lib.hid hinv
    replace hown := Lib.hid hown
    replace hBr := Lib.hid hBr
    by_cases hgo : i < lx ∨ ¬ i < lx ∧ i < ly ∨ ¬ i < lx ∧ ¬ i < ly ∧ 0 < c
    · obtain ⟨x, hgx, hxs, hx0⟩ := at_ex hXs.out i
      obtain ⟨y, hgy, hys, hy0⟩ := at_ex hYs.out i
      rw [← hlx.out] at hx0
      rw [← hly.out] at hy0
      have hin : i ≤ max lx ly := by omega
      have kx : ∀ W, Rd .i64 3 W (.slice Ax lx cx) X → Calls Try.prog 100 #[.slice Ax lx cx, .int .i64 (i : Int)] W fun e w' => e = .returned (.int .i64 (x : Int)) ∧ W = w' := fun W h => rat_same _ X i x W h hgx (by omega)
      have ky : ∀ W, Rd .i64 3 W (.slice Ay ly cy) Y → Calls Try.prog 100 #[.slice Ay ly cy, .int .i64 (i : Int)] W fun e w' => e = .returned (.int .i64 (y : Int)) ∧ W = w' := fun W h => rat_same _ Y i y W h hgy (by omega)
      have hstep := pl_step hLl.out hinv.out hgx hgy
      obtain ⟨Q, hQ⟩ : ∃ Q, Q = c + x := ⟨_, rfl⟩
      have hQi : (c : Int) + (x : Int) = (Q : Int) := by omega
      obtain ⟨S, hS⟩ : ∃ S, S = c + x + y := ⟨_, rfl⟩
      have hSi : (Q : Int) + (y : Int) = (S : Int) := by omega
      rw [← hS] at hstep
      obtain ⟨r, hr⟩ : ∃ r, r = S % 256 := ⟨_, rfl⟩
      obtain ⟨q, hq⟩ : ∃ q, q = S / 256 := ⟨_, rfl⟩
      have hri : (S : Int) % 256 = (r : Int) := by omega
      have hqi : (S : Int) / 256 = (q : Int) := by omega
      have hrs : r < 256 := by omega
      have hq1 : q ≤ 1 := by omega
      have him2 : i + 1 ≤ max lx ly ∨ i + 1 = max lx ly + 1 ∧ q = 0 := by omega
      rw [← hr, ← hq] at hstep
      replace hstep := Lib.hid hstep
      have hLs2 : Hid (∀ z, z ∈ L ++ [r] → z < 256) := Lib.hid (fun z hz => by
        rcases List.mem_append.1 hz with h | h
        · exact hLs.out z h
        · rw [List.mem_singleton.1 h]; exact hrs)
      have hLln : L.length ≤ 536870001 := by rw [hLl.out]; omega
      have kx' := Lib.hid (kx _ (hx.out.below hBr.out))
      have ky' := Lib.hid (ky _ (hy.out.below hBr.out))
      replace him2 := Lib.hid him2
      clear hQ hS hr hq hgx hgy hx0 hy0 kx ky hinv him
      obtain ⟨wo, rfl⟩ : ∃ wo : World, wo = wr := ⟨_, rfl⟩
      rcases hgo with h1 | ⟨h1, h2⟩ | ⟨h1, h2, h3⟩
      all_goals
        go_wp2_with fail
        refine kx'.out.mono ?_
        rintro e w3 ⟨rfl, rfl⟩
        go_wp2_with fail
        refine ky'.out.mono ?_
        rintro e w3 ⟨rfl, rfl⟩
        go_wp2_with (at_builtin; refine wpList_append_own _ rfl _ _ 138 rfl w2.heap.size 3 i0 (.int .i64 0) 1 8 Try.underlying138 hi hz0 hz1 hz2 rfl (by decide) _ _ _ rfl (hown.out.alloc _) ⟨wo.heap.size, 0, none⟩ 1 1 [.int .i64 (r : Int)] rfl rfl ?d1 ?d2 ?d3 ?d4 ?d5 ?_)
        case d1 =>
          intro j u hj
          match j, hj with
          | 0, hj => simp at hj; subst hj; simp [Addr.add]
        case d2 => intro u hu; simp at hu; rw [hu]; rfl
        case d3 => unfold maxLen; omega
        case d4 => omega
        case d5 => have := hBr.out.size; simp; omega
        intro v' w3 hown' hgrow _
        have hB3 : Below w2.heap.size w2 w3 := (hBr.out.alloc hBr.out.size _).grown hgrow (by have := hBr.out.size; simp; omega) (fun k hk => (hown.out.lt k hk).1)
        have hown2 : w3.ownsRow w2.heap.size 3 1 v' (L ++ [r]).length (ivs .i64 (L ++ [r])) := by rw [ivs_append, List.length_append]; exact hown'
        replace hB3 := Lib.hid hB3
        replace hown2 := Lib.hid hown2
        clear hown' hgrow
        go_wp2_with fail
        go_roundw
        case rel => exact ⟨i + 1, q, L ++ [r], by go_num, by go_num, hq1, him2.out, by rw [List.length_append, hLl.out]; rfl, hLs2.out, hstep.out, hown2.out, hB3.out⟩
        case measure => simp [intOf]; omega
    · have g1 : ¬ i < lx := by omega
      have g2 : ¬ i < ly := by omega
      have g3 : c = 0 := by omega
      subst g3
      have g1I : ¬ (i : Int) < (lx : Int) := by omega
      have g2I : ¬ (i : Int) < (ly : Int) := by omega
      have hfin : Hid (madeS L = natS (be (sl a) + be (sl b))) := Lib.hid (by
        have h1 := hinv.out
        rw [List.take_of_length_le (by rw [← hlx.out]; omega), List.take_of_length_le (by rw [← hly.out]; omega), hXv.out, hYv.out, Nat.mul_zero, Nat.add_zero] at h1
        show natS (vb L) = _
        rw [h1])
      have hrd := Lib.hid (rd_own hown.out)
      have hLln : L.length ≤ 536870001 := by rw [hLl.out]; omega
      clear hinv hown hgo him
      go_wp2_with fail
      refine (made_any _ L _ hrd.out hLs.out (by omega)).mono ?_
      rintro e w4 ⟨rfl, hb⟩
      rw [hfin.out]
      have hB3 := hBr.out.trans (hb.mono hBr.out.size)
      have hB4 := Lib.hid (hB.out.trans (hB3.mono hB.out.size))
      clear hb hB3
      go_wp2_with fail
      go_ret
      exact ⟨rfl, hB4.out⟩

set_option maxHeartbeats 400000 in
/-- filigreeref02.Add, of what is not too long. -/
theorem radd02_any (a b : Nat) (w : World) (h1 : (nb a).length ≤ 16384) (h2 : (nb b).length ≤ 16384) (h3 : (nb (a + b)).length ≤ 16384) :
    Calls Try.prog 82 #[.string (natS a), .string (natS b)] w (RetVal (.tuple #[.string (natS (a + b)), .int .i64 0]) w) := by
  have k := rplus_any (natS a) (natS b) w (by rw [natS_size]; omega) (by rw [natS_size]; omega)
  rw [be_natS, be_natS] at k
  have e3 := natS_size (a + b)
  obtain ⟨s, hs⟩ : ∃ s, s = natS a := ⟨_, rfl⟩
  obtain ⟨t, ht⟩ : ∃ t, t = natS b := ⟨_, rfl⟩
  obtain ⟨u, hu⟩ : ∃ u, u = natS (a + b) := ⟨_, rfl⟩
  rw [← hs, ← ht, ← hu] at k
  rw [← hu] at e3
  rw [← hs, ← ht, ← hu]
  have hu3 : u.size ≤ 16384 := by omega
  replace k := Lib.hid k
  clear hs ht hu e3 h1 h2 h3
  go_enter Try.func82, Try.ntmps82
  go_wp2_with fail
  refine k.out.mono ?_
  rintro e w1 ⟨rfl, hb⟩
  replace hb := Lib.hid hb
  go_wp2_with fail
  refine (ended_any u _ hu3).mono ?_
  rintro e w2 ⟨rfl, rfl⟩
  go_wp2_with fail
  go_ret2
  exact ⟨rfl, hb.out⟩
end Go.Proofs.Ytciafmnideihjaa
