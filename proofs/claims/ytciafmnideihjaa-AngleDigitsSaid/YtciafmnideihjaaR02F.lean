/- The document's numbers (filigreeref02): Div, Gcd. · The document's numbers (filigreeref02): Gcd. -/
import Derived.Test.YtciafmnideihjaaR02E
import Derived.Deep.CutRange
import Derived.Deep.RegionWith
namespace Go.Proofs.Ytciafmnideihjaa
open Go.RowKit Go.Sort

theorem div_step {P x b : Nat} (hb : 0 < b) : (256 * P + x) / b = 256 * (P / b) + (256 * (P % b) + x) / b ∧ (256 * P + x) % b = (256 * (P % b) + x) % b := by
  have e : 256 * P + x = b * (256 * (P / b)) + (256 * (P % b) + x) := by
    have h := Nat.div_add_mod P b
    have h2 : b * (256 * (P / b)) = 256 * (b * (P / b)) := by ac_rfl
    rw [h2]
    omega
  rw [e, Nat.mul_add_div hb, Nat.mul_add_mod]
  exact ⟨rfl, rfl⟩
theorem natS_ne {b : Nat} (h : 0 < b) : (natS b).toList.isEmpty = false := by
  have h1 : ¬ (natS b).toList = [] := fun e => by
    have h2 := natS_eq (a := b) (b := 0) (e.trans (by decide +kernel))
    omega
  simpa using h1
theorem natS_empty : natS 0 = ⟨#[]⟩ := by decide +kernel
theorem natS_256 : natS 256 = ⟨#[1, 0]⟩ := by decide +kernel

theorem sl_extract (s : ByteArray) (n : Nat) : sl (s.extract 0 n) = (sl s).take n := by
  unfold sl
  rw [ByteArray.data_extract, Array.toList_extract, List.map_take]
  simp
theorem ext_nat {s : ByteArray} (h : (sl s).head? ≠ some 0) (n : Nat) : s.extract 0 n = natS (be ((sl s).take n)) := by
  apply sl_inj
  rw [sl_extract, sl_natS, natL_be (fun x hx => sl_lt s x (List.mem_of_mem_take hx))]
  intro h1
  apply h
  rw [List.head?_take] at h1
  split at h1
  · cases h1
  · exact h1
theorem nb_self_lt (x : Nat) : x < 256 ^ (nb x).length := by
  rcases Nat.eq_zero_or_pos x with h | h
  · subst h; simp [nb_zero]
  · exact (nb_bounds h).2
theorem nb_more {x y : Nat} (h : y < x * 256) : (nb y).length ≤ (nb x).length + 1 := by
  refine nb_small ?_
  have h1 := nb_self_lt x
  rw [Nat.pow_succ]
  have h2 : (x + 1) * 256 ≤ 256 ^ (nb x).length * 256 := Nat.mul_le_mul_right _ h1
  exact Nat.lt_of_lt_of_le (Nat.lt_of_lt_of_le h (Nat.mul_le_mul_right _ (Nat.le_succ _))) h2
theorem below_next {a x y : World} (h : Below a.heap.size a x) (hb : Below x.heap.size x y) : Below a.heap.size a y := h.trans (hb.mono h.size)
theorem below_al {a x : World} (h : Below a.heap.size a x) (o : Obj) : Below a.heap.size a (x.alloc o) := h.alloc h.size o
theorem made1_any (x : Nat) (v : Value) (W : World) (hx : x < 256) (h : Rd .i64 3 W v [x]) : Calls Try.prog 93 #[v] W (RetVal (.string (natS x)) W) := by
  have h1 := made_any v [x] W h (fun y hy => by rw [List.mem_singleton.1 hy]; exact hx) (by simp)
  have e : madeS [x] = natS x := by unfold madeS; simp [be]
  rwa [e] at h1
theorem rd_one (W : World) (x : Nat) : Rd .i64 3 (W.alloc (.cells #[.int .i64 (x : Int)] 3)) (.slice (some ⟨W.heap.size, 0, none⟩) 1 1) [x] :=
  Rd.whole (Arr.new W .i64 3 [x]) (by simp [maxLen])

set_option maxRecDepth 100000 in
set_option maxHeartbeats 4000000 in
/-- filigreeref02.Div -/
theorem rdiv_any (a b : Nat) (w : World) (hb : 0 < b) (hla : (nb a).length ≤ 16384) (hlb : (nb b).length ≤ 16384) :
    Calls Try.prog 83 #[.string (natS a), .string (natS b)] w (RetVal (.tuple #[.string (natS (a / b)), .string (natS (a % b)), .int .i64 0]) w) := by
  obtain ⟨s, hs⟩ : ∃ s, s = natS a := ⟨_, rfl⟩
  obtain ⟨t, ht⟩ : ∃ t, t = natS b := ⟨_, rfl⟩
  have hsz : s.size = (nb a).length := by rw [hs, natS_size]
  have htz : t.size = (nb b).length := by rw [ht, natS_size]
  have htn := natS_ne hb
  obtain ⟨q, hq⟩ : ∃ q, q = natS (a / b) := ⟨_, rfl⟩
  obtain ⟨r, hr⟩ : ∃ r, r = natS (a % b) := ⟨_, rfl⟩
  obtain ⟨la, hlaE⟩ : ∃ la, la = s.size := ⟨_, rfl⟩
  obtain ⟨n, hn⟩ : ∃ n, n = min (t.size - 1) la := ⟨_, rfl⟩
  have ht1 : 1 ≤ t.size := by
    rw [htz]
    rw [nb_pos hb]
    simp
  rw [← hs, ← ht, ← hq, ← hr]
  rw [← ht] at htn
  have hmk := make_int la (by omega)
  rw [hlaE] at hmk
  have hcond : ((la : Int) < (t.size : Int) - 1 ∧ n = la) ∨ (¬ (la : Int) < (t.size : Int) - 1 ∧ (t.size : Int) - 1 = (n : Int)) := by omega
  rw [hlaE] at hcond
  have hsl : s.size ≤ 16384 := by omega
  have htl : t.size ≤ 16384 := by omega
  replace hs := Lib.hid hs
  replace ht := Lib.hid ht
  replace hq := Lib.hid hq
  replace hr := Lib.hid hr
  replace hn := Lib.hid hn
  replace hsz := Lib.hid hsz
  replace htz := Lib.hid htz
  replace hlaE := Lib.hid hlaE
  go_enter Try.func83, Try.ntmps83
  go_upto_region 5 with fail
  have hA0 := Arr.new w .i64 3 (List.replicate s.size 0)
  have hB0 : Below w.heap.size w (w.alloc (.cells (ivs .i64 (List.replicate s.size 0)).toArray 3)) := (Below.refl _ _).alloc (Nat.le_refl _) _
  generalize hw0 : w.alloc (.cells (ivs .i64 (List.replicate s.size 0)).toArray 3) = w1 at hA0 hB0 ⊢
  clear hw0 hmk
  have hhead : (sl s).head? ≠ some 0 := by rw [hs.out, sl_natS]; exact natL_head
  have hbs : be (sl s) = a := by rw [hs.out, be_natS]
  rcases hcond with ⟨h1, h2⟩ | ⟨h1, h2⟩
  · have hab : a < b := nb_len_lt (by rw [← hsz.out, ← htz.out]; omega)
    have hqe : Hid (q = natS 0) := Lib.hid (by rw [hq.out, Nat.div_eq_of_lt hab])
    have hre : Hid (r = s) := Lib.hid (by rw [hr.out, Nat.mod_eq_of_lt hab, hs.out])
    have hz : Hid (madeS (List.replicate s.size 0) = q) := Lib.hid (by rw [hqe.out]; show natS (vb _) = _; rw [vb_zeros])
    replace hB0 := Lib.hid hB0
    have hrd := Rd.whole hA0 (by rw [List.length_replicate]; unfold maxLen; omega)
    rw [List.length_replicate] at hrd
    replace hrd := Lib.hid hrd
    clear hab hA0 hhead hbs
    go_wp2_with fail
    go_loop [9, 10] (fun rv iv => iv = .int .i64 (s.size : Int) ∧ rv = .string s) (fun _ _ => 0)
    case atStart => exact ⟨rfl, rfl⟩
    case round =>
      obtain ⟨rfl, rfl⟩ := hrel
      go_wp2_with fail
      refine (made_any _ (List.replicate s.size 0) _ hrd.out (fun x hx => by rw [List.eq_of_mem_replicate hx]; omega) (by rw [List.length_replicate]; omega)).mono ?_
      rintro e w2 ⟨rfl, hb2⟩
      rw [hz.out]
      have hB := Lib.hid (hB0.out.trans (hb2.mono hB0.out.size))
      clear hb2
      go_wp2_with fail
      go_ret3
      exact ⟨by rw [hre.out]; rfl, hB.out⟩
  have hns : n ≤ s.size := by omega
  have hni : (t.size : Int) - 1 = (n : Int) := h2
  obtain ⟨P, hP⟩ : ∃ P : Nat → Nat, P = fun i => be ((sl s).take i) := ⟨_, rfl⟩
  have hP0 : P n < b := by
    rw [hP]
    have h3 := be_lt (l := (sl s).take n) (fun x hx => sl_lt s x (List.mem_of_mem_take hx))
    rw [List.length_take, sl_len, Nat.min_eq_left hns] at h3
    have h4 := (nb_bounds hb).1
    rw [← htz.out, show t.size - 1 = n by omega] at h4
    exact Nat.lt_of_lt_of_le h3 h4
  have hPs : ∀ i (h : i < s.size), P (i + 1) = 256 * P i + (s[i]'h).toNat := fun i h => by rw [hP]; exact be_take_succ (sl_get s i h)
  have hPl : P s.size = a := by rw [hP]; show be ((sl s).take s.size) = a; rw [← sl_len, List.take_length, hbs]
  have hext : Hid (s.extract 0 n = natS (P n % b)) := Lib.hid (by rw [Nat.mod_eq_of_lt hP0, hP]; exact ext_nat hhead n)
  have hq0 : Hid (vb (List.replicate s.size 0) = P n / b * 256 ^ (s.size - n)) := Lib.hid (by rw [vb_zeros, Nat.div_eq_of_lt hP0, Nat.zero_mul])
  replace hB0 := Lib.hid hB0
  replace hA0 := Lib.hid hA0
  replace hPs := Lib.hid hPs
  replace hPl := Lib.hid hPl
  clear hP hP0 hhead hbs h2 hlaE
  go_wp2_with fail
  rw [hext.out]
  go_loopw [9, 10] (fun rv iv wr => ∃ (i : Nat) (Q : List Nat), iv = .int .i64 (i : Int) ∧ i ≤ s.size ∧ rv = .string (natS (P i % b)) ∧ Q.length = s.size ∧ (∀ x, x ∈ Q → x < 256) ∧ (∀ j, j < s.size - i → Q[j]? = some 0) ∧ vb Q = P i / b * 256 ^ (s.size - i) ∧ Arr wr w.heap.size .i64 3 Q ∧ Below w.heap.size w wr) (fun _ iv _ => s.size - (intOf iv).toNat)
  case atStart => exact ⟨n, _, by first | rfl | rw [hni], hns, rfl, by simp, fun x hx => by rw [List.eq_of_mem_replicate hx]; omega, fun j hj => by rw [List.getElem?_replicate, if_pos (by omega)], hq0.out, hA0.out, hB0.out⟩
  case round =>
    obtain ⟨i, Q, rfl, hi, rfl, hQl, hQs, hQz, hQv, hA, hB⟩ := hrel
    replace hQl := Lib.hid hQl
    replace hQs := Lib.hid hQs
    replace hQz := Lib.hid hQz
    replace hQv := Lib.hid hQv
    replace hA := Lib.hid hA
    replace hB := Lib.hid hB
    clear hA0 hB0 hq0 hext
    by_cases h0 : i < s.size
    · have h0I : (i : Int) < (s.size : Int) := by omega
      obtain ⟨x, hx⟩ : ∃ x, x = (s[i]'h0).toNat := ⟨_, rfl⟩
      have hxi : ((s[i]'h0).toNat : Int) = (x : Int) := by rw [hx]
      have hxs : x < 256 := by rw [hx]; exact UInt8.toNat_lt _
      have hxw : IntKind.i64.wrap (x : Int) = (x : Int) := by rw [IntKind.wrap_i64]; omega
      obtain ⟨r0, hr0⟩ : ∃ r0, r0 = P i % b := ⟨_, rfl⟩
      have hr0b : r0 < b := by rw [hr0]; exact Nat.mod_lt _ hb
      obtain ⟨R, hR⟩ : ∃ R, R = 256 * r0 + x := ⟨_, rfl⟩
      have hRb : R < b * 256 := by
        have h3 : (r0 + 1) * 256 ≤ b * 256 := Nat.mul_le_mul_right _ hr0b
        omega
      have hst := div_step (P := P i) (x := x) hb
      have hPn := hPs.out i h0
      rw [← hx] at hPn
      rw [← hPn, ← hr0, ← hR] at hst
      clear hPn
      replace hst := Lib.hid hst
      have hRl := nb_more hRb
      have hr0l := nb_len_mono (Nat.le_of_lt hr0b)
      have l256 : (nb 256).length ≤ 2 := nb_small (by omega)
      have lx : (nb x).length ≤ 1 := nb_small (by omega)
      have lr : (nb (r0 * 256)).length ≤ (nb b).length + 1 := nb_more (Nat.mul_lt_mul_of_pos_right hr0b (by omega))
      have hT : ∀ W, Calls Try.prog 109 #[.string (natS r0), .string ⟨#[1, 0]⟩] W (RetVal (.string (natS (r0 * 256))) W) := fun W => by
        have h := rtimes_any (natS r0) (natS 256) W (by rw [natS_size]; omega) (by rw [natS_size]; omega)
        rw [be_natS, be_natS] at h
        rw [← natS_256]
        exact h
      have hPl2 : ∀ W, Calls Try.prog 110 #[.string (natS (r0 * 256)), .string (natS x)] W (RetVal (.string (natS R)) W) := fun W => by
        have h := rplus_any (natS (r0 * 256)) (natS x) W (by rw [natS_size]; omega) (by rw [natS_size]; omega)
        rw [be_natS, be_natS, show r0 * 256 + x = R by omega] at h
        exact h
      have hTb : ∀ m W, m < 256 → Calls Try.prog 109 #[.string t, .string (natS m)] W (RetVal (.string (natS (b * m))) W) := fun m W hm => by
        have lm : (nb m).length ≤ 1 := nb_small (by omega)
        have h := rtimes_any t (natS m) W (by omega) (by rw [natS_size]; omega)
        rw [ht.out, be_natS, be_natS, ← ht.out] at h
        exact h
      have hC : ∀ m W, m < 256 → Calls Try.prog 68 #[.string (natS (b * m)), .string (natS R)] W fun e w' => e = .returned (.int .i64 (cmpI (b * m) R)) ∧ Dr W w' := fun m W hm =>
        rcmp02_any (b * m) R W (by have := nb_more (x := b) (y := b * m) (Nat.mul_lt_mul_of_pos_left hm hb); omega) (by omega)
      have hS : ∀ m W, b * m ≤ R → Calls Try.prog 70 #[.string (natS R), .string (natS (b * m))] W (RetVal (.tuple #[.string (natS (R - b * m)), .int .i64 0]) W) := fun m W hm => rsub_any R (b * m) W hm (by omega)
      obtain ⟨F, hF⟩ : ∃ F : Nat → ByteArray, F = natS := ⟨_, rfl⟩
      have hM : ∀ y W v, y < 256 → Rd .i64 3 W v [y] → Calls Try.prog 93 #[v] W (RetVal (.string (F y)) W) := fun y W v h1 h2 => by rw [hF]; exact made1_any y v W h1 h2
      rw [← hF] at hT hPl2 hTb hC hS
      rw [← hr0, ← hF]
      replace hT := Lib.hid hT
      replace hPl2 := Lib.hid hPl2
      replace hTb := Lib.hid hTb
      replace hC := Lib.hid hC
      replace hS := Lib.hid hS
      replace hM := Lib.hid hM
      replace hF := Lib.hid hF
      replace hR := Lib.hid hR
      clear hx hr0 hRl hr0l l256 lx lr
      go_upto_region 11 with fail
      obtain ⟨wo, hwo⟩ : ∃ wo : World, wo = wr := ⟨_, rfl⟩
      go_cut [9] from 32 to 83 (fun s9 wx => s9 = .string (F R) ∧ Below wr.heap.size wr wx)
      case first =>
        go_region_with (first
          | (go_at_call 109; refine (hT.out _).mono ?_; rintro en v1 ⟨rfl, hb1⟩)
          | (go_at_call 93; refine (hM.out x _ _ hxs (by first | exact rd_one _ _ | exact Rd.below (w := (wr.drew.alloc (.cells #[.int .i64 (x : Int)] 3))) (rd_one wr.drew x) hb1 | exact Rd.below (w := (wr.alloc (.cells #[.int .i64 (x : Int)] 3))) (rd_one wr x) hb1)).mono ?_; rintro en v2 ⟨rfl, hb2⟩)
          | (go_at_call 110; refine (hPl2.out _).mono ?_; rintro en v3 ⟨rfl, hb3⟩))
        all_goals
          go_wp2_with fail
          go_meet
          case rel => exact ⟨rfl, by first | exact below_next (below_next (below_al (below_next (Below.refl _ wr).drew hb1) _) hb2) hb3 | exact below_next (below_next (below_next (below_al (Below.refl _ wr).drew _) hb1) hb2) hb3 | exact below_next (below_next (below_next (below_al (Below.refl _ wr).drew _) hb2) hb1) hb3⟩
      case rest =>
        obtain ⟨rfl, hBc⟩ := hcut
        replace hA := Lib.hid (hA.out.below hBc hA.out.lt)
        replace hB := Lib.hid (hB.out.trans (hBc.mono hB.out.size))
        clear hBc hT hPl2 hwo
        go_wp2_with fail
        go_loopw [11, 12] (fun lv hv wx => ∃ l h : Nat, lv = .int .i64 (l : Int) ∧ hv = .int .i64 (h : Int) ∧ l ≤ h ∧ h ≤ 255 ∧ b * l ≤ R ∧ R < b * (h + 1) ∧ Below wc.heap.size wc wx) (fun lv hv _ => (intOf hv).toNat - (intOf lv).toNat)
        case atStart => exact ⟨0, 255, rfl, rfl, by omega, Nat.le_refl _, by omega, hRb, Below.refl _ _⟩
        case round =>
          obtain ⟨l, h, rfl, rfl, hlh, hh, hl1, hh1, hBx⟩ := hrel
          by_cases hgo : l < h
          · have hgoI : (l : Int) < (h : Int) := by omega
            obtain ⟨sm, hsm⟩ : ∃ sm, sm = l + h + 1 := ⟨_, rfl⟩
            obtain ⟨m, hm⟩ : ∃ m, m = sm / 2 := ⟨_, rfl⟩
            have hsmi : (l : Int) + (h : Int) + 1 = (sm : Int) := by omega
            have hmi : (sm : Int) / 2 = (m : Int) := by omega
            have hmi' : (sm : Int).tdiv 2 = (m : Int) := by rw [hm]; exact tdiv_nat sm 2
            have hm1 : l < m := by omega
            have hm2 : m ≤ h := by omega
            have hms : m < 256 := by omega
            have hsmw : sm ≤ 511 := by omega
            have hrm := Lib.hid (rd_one wr m)
            replace hBx := Lib.hid (hBx.alloc hBx.size (.cells #[.int .i64 (m : Int)] 3))
            clear hsm hm
            go_wp2_with fail
            refine (hM.out m _ _ hms hrm.out).mono ?_
            rintro en u1 ⟨rfl, hb⟩
            replace hBx := Lib.hid (hBx.out.trans (hb.mono hBx.out.size))
            clear hb
            go_wp2_with fail
            refine (hTb.out m _ hms).mono ?_
            rintro en u2 ⟨rfl, hb⟩
            replace hBx := Lib.hid (hBx.out.trans (hb.mono hBx.out.size))
            clear hb
            go_wp2_with fail
            refine (hC.out m _ hms).mono ?_
            rintro en u3 ⟨rfl, nd, rfl⟩
            replace hBx := Lib.hid (below_drewN hBx.out nd)
            by_cases hc : b * m ≤ R
            · have hcI : cmpI (b * m) R ≤ 0 := by
                unfold cmpI
                split
                · decide
                · split
                  · omega
                  · decide
              obtain ⟨cm, hcm⟩ : ∃ cm, cm = cmpI (b * m) R := ⟨_, rfl⟩
              rw [← hcm] at hcI ⊢
              clear hcm
              replace hc := Lib.hid hc
              replace hh1 := Lib.hid hh1
              clear hl1
              go_wp2_with fail
              go_roundw
              case rel => exact ⟨m, h, rfl, rfl, hm2, hh, hc.out, hh1.out, hBx.out⟩
              case measure => simp [intOf]; omega
            · have hcI : ¬ cmpI (b * m) R ≤ 0 := by
                unfold cmpI
                rw [if_neg (by omega), if_pos (by omega)]
                decide
              obtain ⟨cm, hcm⟩ : ∃ cm, cm = cmpI (b * m) R := ⟨_, rfl⟩
              rw [← hcm] at hcI ⊢
              clear hcm
              have hc2 : Hid (R < b * (m - 1 + 1)) := Lib.hid (by rw [show m - 1 + 1 = m by omega]; omega)
              have hmm : (m : Int) - 1 = ((m - 1 : Nat) : Int) := by omega
              replace hl1 := Lib.hid hl1
              clear hh1 hc
              go_wp2_with fail
              go_roundw
              case rel => exact ⟨l, m - 1, rfl, by first | rfl | rw [hmm], by omega, by omega, hl1.out, hc2.out, hBx.out⟩
              case measure => simp [intOf]; omega
          · obtain rfl : l = h := by omega
            have hgoI : ¬ (l : Int) < (l : Int) := by omega
            have hlR : R / b = l := by
              refine Nat.div_eq_of_lt_le ?_ ?_
              · rw [Nat.mul_comm]; exact hl1
              · rw [Nat.mul_comm]; exact hh1
            have hls : l < 256 := by omega
            obtain ⟨j, hj⟩ : ∃ j, j = s.size - 1 - i := ⟨_, rfl⟩
            have hji : (s.size : Int) - 1 - (i : Int) = (j : Int) := by omega
            have hjs : j < s.size := by omega
            have hjI : (j : Int) < (s.size : Int) := by omega
            have hA2 := hA.out.below hBx hA.out.lt
            have hB2 := hB.out.trans (hBx.mono hB.out.size)
            have hzj := hQz.out j (by omega)
            have hcz : wr.cell? ⟨w.heap.size, j, none⟩ = some (.int .i64 ((0 : Nat) : Int)) := hA2.cell hzj
            have hfz : wr.frozen? ⟨w.heap.size, j, none⟩ = false := hA2.frozen _
            have hA3 := hA2.set_ j l
            have hB3 := hB2.setCell (p := ⟨w.heap.size, j, none⟩) (Nat.le_refl _) (.int .i64 (l : Int))
            have hQv2 : Hid (vb (Q.set j l) = P (i + 1) / b * 256 ^ (s.size - (i + 1))) := Lib.hid (by
              have h3 := vb_set (l := Q) l hzj
              rw [Nat.mul_zero, Nat.add_zero, hQv.out] at h3
              rw [h3, hst.out.1, hlR, show s.size - (i + 1) = j by omega, show s.size - i = j + 1 by omega, Nat.pow_succ, Nat.add_mul]
              have e1 : P i / b * (256 ^ j * 256) = 256 * (P i / b) * 256 ^ j := by ac_rfl
              rw [e1, Nat.mul_comm (256 ^ j) l])
            have hQs2 : Hid (∀ x, x ∈ Q.set j l → x < 256) := Lib.hid (fun x hx => by
              rcases List.mem_or_eq_of_mem_set hx with h3 | h3
              · exact hQs.out x h3
              · rw [h3]; exact hls)
            have hQz2 : Hid (∀ k, k < s.size - (i + 1) → (Q.set j l)[k]? = some 0) := Lib.hid (fun k hk => by
              rw [List.getElem?_set_ne (by omega)]
              exact hQz.out k (by omega))
            have hrem : Hid (F (R - b * l) = F (P (i + 1) % b)) := Lib.hid (by
              rw [hst.out.2, ← hlR]
              congr 1
              have := Nat.div_add_mod R b
              omega)
            have hrm0 := rd_one (wr.setCell ⟨w.heap.size, j, none⟩ (.int .i64 (l : Int))) l
            have hse : (wr.setCell ⟨w.heap.size, j, none⟩ (.int .i64 (l : Int))).heap.size = wr.heap.size := by simp
            rw [hse] at hrm0
            have hrm := Lib.hid hrm0
            clear hrm0 hse
            have hl1' := Lib.hid hl1
            replace hA3 := Lib.hid (hA3.alloc (.cells #[.int .i64 (l : Int)] 3))
            replace hB3 := Lib.hid (hB3.alloc hB3.size (.cells #[.int .i64 (l : Int)] 3))
            clear hA hB hA2 hB2 hBx hst hlR hzj hQv hQs hQz hl1 hh1 hj
            go_wp2_with fail
            refine (hM.out l _ _ hls hrm.out).mono ?_
            rintro en u1 ⟨rfl, hb⟩
            replace hA3 := Lib.hid (hA3.out.below hb hA3.out.lt)
            replace hB3 := Lib.hid (hB3.out.trans (hb.mono hB3.out.size))
            clear hb
            go_wp2_with fail
            refine (hTb.out l _ hls).mono ?_
            rintro en u2 ⟨rfl, hb⟩
            replace hA3 := Lib.hid (hA3.out.below hb hA3.out.lt)
            replace hB3 := Lib.hid (hB3.out.trans (hb.mono hB3.out.size))
            clear hb
            go_wp2_with fail
            refine (hS.out l _ hl1'.out).mono ?_
            rintro en u3 ⟨rfl, hb⟩
            replace hA3 := Lib.hid (hA3.out.below hb hA3.out.lt)
            replace hB3 := Lib.hid (hB3.out.trans (hb.mono hB3.out.size))
            rw [hrem.out]
            clear hb hrem
            go_wp2_with fail
            go_roundw
            case rel => exact ⟨i + 1, Q.set j l, by go_num, by omega, by rw [hF.out], by rw [List.length_set]; exact hQl.out, hQs2.out, hQz2.out, hQv2.out, hA3.out, hB3.out⟩
            case measure => simp [intOf]; omega
    · have hie : i = s.size := by omega
      have h0I : ¬ (i : Int) < (s.size : Int) := by omega
      have hre : Hid (natS (P i % b) = r) := Lib.hid (by rw [hr.out, hie, hPl.out])
      have hqe : Hid (madeS Q = q) := Lib.hid (by
        show natS (vb Q) = q
        rw [hq.out, hQv.out, hie, hPl.out, Nat.sub_self, Nat.pow_zero, Nat.mul_one])
      have hrd := Rd.whole hA.out (by rw [hQl.out]; unfold maxLen; omega)
      rw [hQl.out] at hrd
      replace hrd := Lib.hid hrd
      rw [hre.out]
      clear hQv hQz hA hre
      go_wp2_with fail
      refine (made_any _ Q _ hrd.out hQs.out (by rw [hQl.out]; omega)).mono ?_
      rintro e w2 ⟨rfl, hb2⟩
      rw [hqe.out]
      have hB2 := Lib.hid (hB.out.trans (hb2.mono hB.out.size))
      clear hb2
      go_wp2_with fail
      go_ret3
      exact ⟨rfl, hB2.out⟩
end Go.Proofs.Ytciafmnideihjaa

namespace Go.Proofs.Ytciafmnideihjaa
open Go.RowKit Go.Sort

def strN (v : Value) : Nat := match v with
  | .string s => be (sl s)
  | _ => 0
theorem strN_nat (n : Nat) : strN (.string (natS n)) = n := be_natS n

set_option maxRecDepth 100000 in
set_option maxHeartbeats 1000000 in
/-- filigreeref02.Gcd -/
theorem rgcdS_any (a b : Nat) (w : World) (hla : (nb a).length ≤ 16384) (hlb : (nb b).length ≤ 16384) :
    Calls Try.prog 84 #[.string (natS a), .string (natS b)] w (RetVal (.string (natS (Nat.gcd a b))) w) := by
  obtain ⟨G, hG⟩ : ∃ G, G = Nat.gcd a b := ⟨_, rfl⟩
  obtain ⟨F, hF⟩ : ∃ F : Nat → ByteArray, F = natS := ⟨_, rfl⟩
  rw [← hG, ← hF]
  replace hG := Lib.hid hG
  replace hF := Lib.hid hF
  go_enter Try.func84, Try.ntmps84
  go_wp2_with fail
  go_loopw [0, 1] (fun xv yv wr => ∃ p q : Nat, xv = .string (F p) ∧ yv = .string (F q) ∧ G = Nat.gcd p q ∧ (nb p).length ≤ 16384 ∧ (nb q).length ≤ 16384 ∧ Below w.heap.size w wr) (fun _ yv _ => strN yv)
  case atStart => exact ⟨a, b, rfl, rfl, hG.out, hla, hlb, Below.refl _ _⟩
  case round =>
    obtain ⟨p, q, rfl, rfl, hg, hp, hq, hB⟩ := hrel
    replace hg := Lib.hid hg
    replace hB := Lib.hid hB
    by_cases h0 : 0 < q
    · have hne : (F q).toList.isEmpty = false := by rw [hF.out]; exact natS_ne h0
      obtain ⟨r, hr⟩ : ∃ r, r = p % q := ⟨_, rfl⟩
      have hrq : r < q := by rw [hr]; exact Nat.mod_lt _ h0
      have hrl : (nb r).length ≤ 16384 := Nat.le_trans (nb_len_mono (Nat.le_of_lt hrq)) hq
      have hg2 : Hid (G = Nat.gcd q r) := Lib.hid (by rw [hg.out, hr, Nat.gcd_comm, Nat.gcd_rec q p, Nat.gcd_comm])
      have hc : ∀ W, Calls Try.prog 83 #[.string (F p), .string (F q)] W (RetVal (.tuple #[.string (F (p / q)), .string (F r), .int .i64 0]) W) := fun W => by rw [hF.out, hr]; exact rdiv_any p q W h0 hp hq
      have hms : Hid (strN (.string (F r)) < strN (.string (F q))) := Lib.hid (by rw [hF.out, strN_nat, strN_nat]; exact hrq)
      replace hc := Lib.hid hc
      clear hr hg
      go_wp2_with fail
      refine (hc.out _).mono ?_
      rintro e w2 ⟨rfl, hb⟩
      replace hB := Lib.hid (hB.out.trans (hb.mono hB.out.size))
      clear hb
      go_wp2_with fail
      go_roundw
      case rel => exact ⟨q, r, rfl, rfl, hg2.out, hq, hrl, hB.out⟩
      case measure => exact hms.out
    · obtain rfl : q = 0 := by omega
      have hE : F 0 = ⟨#[]⟩ := by rw [hF.out]; exact natS_empty
      have hgp : Hid (F G = F p) := Lib.hid (by rw [hg.out, Nat.gcd_zero_right])
      rw [hE]
      clear hE hg
      go_wp2_with fail
      go_ret
      exact ⟨by rw [hgp.out]; rfl, hB.out⟩
end Go.Proofs.Ytciafmnideihjaa
