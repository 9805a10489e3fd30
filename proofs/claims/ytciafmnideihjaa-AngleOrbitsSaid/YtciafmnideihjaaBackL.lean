/- filigreelaw21.AngleBack: the walk. -/
import Derived.Test.YtciafmnideihjaaBackP
import Derived.Deep.CutRange
namespace Go.Proofs.Ytciafmnideihjaa
open Go.RowKit Go.Sort

theorem kind_le : ∀ (f n d c : Nat), 0 < n → n ≤ f → (kindF f n d c).2 ≤ n := by
  intro f
  induction f with
  | zero => intro n d c h0 h; omega
  | succ f ih =>
    intro n d c h0 h
    by_cases hg : Nat.gcd n d = 1
    · rw [kindF_end hg]; exact (ordG_le h0).2
    · rw [kindF_go hg]
      have g0 : 0 < Nat.gcd n d := Nat.gcd_pos_of_pos_left _ h0
      have h1 : 0 < n / Nat.gcd n d := Nat.div_pos (Nat.gcd_le_left _ h0) g0
      have h2 : n / Nat.gcd n d < n := Nat.div_lt_self h0 (by omega)
      have := ih (n / Nat.gcd n d) d (c + 1) h1 (by omega)
      omega

theorem ba_eqB {a b : ByteArray} (h : a.toList = b.toList) : a = b := by
  rw [ByteArray.toList_eq, ByteArray.toList_eq] at h
  cases a; cases b
  simp at h ⊢
  exact h
theorem turnsB_rd {ng : Bool} {nu de : ByteArray} {d n : Nat} (ha : okA ng nu de = true) (hr : roundB (d : Int) = true) :
    turnsV ng nu de (d : Int) (n : Int) = .tuple #[.agg #[.bool false, .string (natS (rd (turnX (be (sl nu)) (be (sl de)) d n) (be (sl de))).1), .string (natS (rd (turnX (be (sl nu)) (be (sl de)) d n) (be (sl de))).2)], .int .i64 0] := by
  unfold turnsV
  rw [if_pos ha, hr]
  simp [ratV, rd]
theorem turnsB_no {ng : Bool} {nu de : ByteArray} {d n : Int} (h : ¬ (okA ng nu de = true ∧ roundB d = true)) :
    ∃ c : Int, c ≠ 0 ∧ turnsV ng nu de d n = .tuple #[.agg #[.bool false, .string ⟨#[]⟩, .string ⟨#[]⟩], .int .i64 c] := by
  unfold turnsV
  split
  · split
    · rename_i h1 h2
      simp at h2
      exact absurd ⟨h1, h2.1⟩ h
    · exact ⟨2, by decide, rfl⟩
  · exact ⟨210, by decide, rfl⟩
theorem own_formsB {w : World} {base : Nat} {T : TypeId} {size : Nat} {v : Value} {n : Nat} {xs : List Value} (h : w.ownsRow base T size v n xs) : (v = .slice none 0 0 ∧ n = 0) ∨ ∃ g cap, v = .slice (some ⟨g, 0, none⟩) n cap := own_forms h

set_option maxRecDepth 100000 in
set_option maxHeartbeats 4000000 in
theorem angleBack_any (ng : Bool) (nu de : ByteArray) (d m n : Int) (w : World) (z1 : nu.size ≤ 9223372036854775807) (z2 : de.size ≤ 9223372036854775807) :
    Calls Try.prog 10 #[.agg #[.bool ng, .string nu, .string de], .int .i64 d, .int .i64 m, .int .i64 n] w (RetVal (.bool true) w) := by
  have ka := Blk.new w 24 #[.bool ng, .string nu, .string de]
  have hBW : Below w.heap.size w (w.alloc (.cells #[.bool ng, .string nu, .string de] 24)) := (Below.refl _ w).alloc (Nat.le_refl _) _
  replace ka := Lib.hid ka
  replace hBW := Lib.hid hBW
  have hrange : (m < 0 ∨ ¬ m < 0 ∧ n < 0 ∨ ¬ m < 0 ∧ ¬ n < 0 ∧ 1099511627776 < m ∨ ¬ m < 0 ∧ ¬ n < 0 ∧ ¬ 1099511627776 < m ∧ 1099511627776 < n) ∨ (¬ m < 0 ∧ ¬ n < 0 ∧ ¬ 1099511627776 < m ∧ ¬ 1099511627776 < n) := by omega
  rcases hrange with hx | ⟨m0, n0, m1, n1⟩
  · go_enter Try.func10, Try.ntmps10
    go_wp2_with fail
    refine (awake_any _).mono ?_
    rintro en v1 ⟨rfl, hb⟩
    replace hBW := Lib.hid (hBW.out.trans (hb.mono hBW.out.size))
    clear hb ka
    rcases hx with h1 | ⟨h1, h2⟩ | ⟨h1, h2, h3⟩ | ⟨h1, h2, h3, h4⟩
    all_goals
      go_wp2_with fail
      go_ret
      exact ⟨rfl, hBW.out⟩
  by_cases hok : okA ng nu de = true ∧ roundB d = true
  rotate_left
  · obtain ⟨c, hc, ht⟩ := turnsB_no (n := m) hok
    replace ht := Lib.hid ht
    have hcb : (c != 0) = true := by simpa using hc
    have mlt : Hid (m < 9223372036854775808) := Lib.hid (by omega)
    go_enter Try.func10, Try.ntmps10
    go_wp2_with fail
    refine (awake_any _).mono ?_
    rintro en v1 ⟨rfl, hb⟩
    replace ka := Lib.hid (Blk.below ka.out hb)
    replace hBW := Lib.hid (hBW.out.trans (hb.mono hBW.out.size))
    clear hb
    have c0 : v1.cell? ⟨w.heap.size, 0, none⟩ = some (.bool ng) := ka.out.cell 0
    have c1 : v1.cell? ⟨w.heap.size, 1, none⟩ = some (.string nu) := ka.out.cell 1
    have c2 : v1.cell? ⟨w.heap.size, 2, none⟩ = some (.string de) := ka.out.cell 2
    go_wp2_with fail
    refine (turns_any ng nu de d m _ z1 z2 mlt.out).mono ?_
    rintro en v2 ⟨rfl, hb⟩
    rw [ht.out]
    have kx := Blk.new v2 24 #[.bool false, .string ⟨#[]⟩, .string ⟨#[]⟩]
    replace hBW := hBW.out.trans (hb.mono hBW.out.size)
    replace hBW := hBW.alloc hBW.size (.cells #[.bool false, .string ⟨#[]⟩, .string ⟨#[]⟩] 24)
    clear hb c0 c1 c2
    go_upto_region 6 with fail
    generalize hxx : v2.alloc (.cells #[.bool false, .string ⟨#[]⟩, .string ⟨#[]⟩] 24) = v3 at kx hBW ⊢
    generalize hgg : v2.heap.size = g1 at *
    clear hxx hgg
    replace kx := Lib.hid kx
    replace hBW := Lib.hid hBW
    have c0 : v3.cell? ⟨g1, 0, none⟩ = some (.bool false) := kx.out.cell 0
    have c1 : v3.cell? ⟨g1, 1, none⟩ = some (.string ⟨#[]⟩) := kx.out.cell 1
    have c2 : v3.cell? ⟨g1, 2, none⟩ = some (.string ⟨#[]⟩) := kx.out.cell 2
    clear kx
    go_wp2_with fail
    go_ret
    exact ⟨rfl, hBW.out⟩
  obtain ⟨ok, hr⟩ := hok
  obtain ⟨mm, rfl⟩ := Int.eq_ofNat_of_zero_le (show 0 ≤ m by omega)
  obtain ⟨nn, rfl⟩ := Int.eq_ofNat_of_zero_le (show 0 ≤ n by omega)
  have hd := roundB_iff.1 hr
  obtain ⟨dn, rfl⟩ := Int.eq_ofNat_of_zero_le (show 0 ≤ d by omega)
  have hdn : dn ≤ 64 := by omega
  have hd2 : 2 ≤ dn := by omega
  obtain ⟨hng, mnu, mde, gc, lt, le⟩ := okA_spec ok
  subst hng
  obtain ⟨x, hx⟩ : ∃ x, x = be (sl nu) := ⟨_, rfl⟩
  obtain ⟨y, hy⟩ : ∃ y, y = be (sl de) := ⟨_, rfl⟩
  have hnx : natS x = nu := by rw [hx]; exact natS_be mnu
  have hny : natS y = de := by rw [hy]; exact natS_be mde
  have hrd : ∀ j : Nat, turnsV false nu de (dn : Int) (j : Int) = .tuple #[.agg #[.bool false, .string (natS (rd (turnX x y dn j) y).1), .string (natS (rd (turnX x y dn j) y).2)], .int .i64 0] := fun j => by rw [hx, hy]; exact turnsB_rd ok hr
  rw [← hx, ← hy] at gc lt
  rw [← hy] at le
  have y0 : 0 < y := by omega
  have hlt : ∀ j : Nat, turnX x y dn j < y := fun j => Nat.mod_lt _ y0
  obtain ⟨P, hP⟩ : ∃ P, P = (kindN y dn).1 := ⟨_, rfl⟩
  obtain ⟨K, hK⟩ : ∃ K, K = (kindN y dn).2 := ⟨_, rfl⟩
  have hPs : P ≤ 2147483647 := by rw [hP]; have := kindF_cnt y y dn 0; unfold kindN; omega
  have hKs : K ≤ 2147483647 := by rw [hK]; have := kind_le y y dn 0 y0 (Nat.le_refl _); unfold kindN; omega
  obtain ⟨MN, hMN⟩ : ∃ MN, MN = mm + nn := ⟨_, rfl⟩
  have iMN : (mm : Int) + (nn : Int) = (MN : Int) := by omega
  obtain ⟨PK, hPK⟩ : ∃ PK, PK = P + K := ⟨_, rfl⟩
  have iPK : (P : Int) + (K : Int) = (PK : Int) := by omega
  have hTu : ∀ (j : Nat) (s t : ByteArray), j < 9223372036854775808 → s = natS (rd (turnX x y dn j) y).1 → t = natS (rd (turnX x y dn j) y).2 → ∀ W : World,
      Calls Try.prog 25 #[.agg #[.bool false, .string nu, .string de], .int .i64 (dn : Int), .int .i64 (j : Int)] W (RetVal (.tuple #[.agg #[.bool false, .string s, .string t], .int .i64 0]) W) := fun j s t hj hs ht W => by
    have h := turns_any false nu de (dn : Int) (j : Int) W z1 z2 (by omega)
    rw [hrd j] at h
    rw [hs, ht]
    exact h
  -- x, y, z
  obtain ⟨s1, es1⟩ : ∃ s, s = natS (rd (turnX x y dn mm) y).1 := ⟨_, rfl⟩
  obtain ⟨t1, et1⟩ : ∃ s, s = natS (rd (turnX x y dn mm) y).2 := ⟨_, rfl⟩
  obtain ⟨s2, es2⟩ : ∃ s, s = natS (rd (turnX x y dn MN) y).1 := ⟨_, rfl⟩
  obtain ⟨t2, et2⟩ : ∃ s, s = natS (rd (turnX x y dn MN) y).2 := ⟨_, rfl⟩
  obtain ⟨s3, es3⟩ : ∃ s, s = natS (rd (turnX x y dn P) y).1 := ⟨_, rfl⟩
  obtain ⟨t3, et3⟩ : ∃ s, s = natS (rd (turnX x y dn P) y).2 := ⟨_, rfl⟩
  have K1 := hTu mm s1 t1 (by omega) es1 et1
  have K3 := hTu MN s2 t2 (by omega) es2 et2
  have K4 := hTu P s3 t3 (by omega) es3 et3
  have hPKt : turnX x y dn PK = turnX x y dn P := by rw [hPK]; exact orbit_back (by omega) y0 hP hK
  have K5 := hTu PK s3 t3 (by omega) (by rw [hPKt]; exact es3) (by rw [hPKt]; exact et3)
  have ok1 : okA false s1 t1 = true := by
    obtain ⟨f1, f2, f3⟩ := rd_facts y0 (hlt mm)
    rw [es1, et1]
    exact okA_natS f1 f2 (by omega)
  have K2 : ∀ W : World, Calls Try.prog 25 #[.agg #[.bool false, .string s1, .string t1], .int .i64 (dn : Int), .int .i64 (nn : Int)] W (RetVal (.tuple #[.agg #[.bool false, .string s2, .string t2], .int .i64 0]) W) := fun W => by
    have h := turns_any false s1 t1 (dn : Int) (nn : Int) W (okA_size ok1).1 (okA_size ok1).2 (by omega)
    have htt := turn_turn (x := x) (y := y) (d := dn) (m := mm) (n := nn) (N := (rd (turnX x y dn mm) y).1) (D := (rd (turnX x y dn mm) y).2) y0 rfl
    rw [turnsB_rd ok1 hr, es1, et1, be_natS, be_natS, htt, ← hMN, ← es2, ← et2, ← es1, ← et1] at h
    exact h
  have Kk : ∀ W : World, Calls Try.prog 16 #[.agg #[.bool false, .string nu, .string de], .int .i64 (dn : Int)] W (RetVal (.tuple #[.int .i64 (P : Int), .int .i64 (K : Int), .int .i64 0]) W) := fun W => by
    have h := kindW_any false nu de (dn : Int) W z1 z2
    have e : kindV false nu de (dn : Int) = .tuple #[.int .i64 (P : Int), .int .i64 (K : Int), .int .i64 0] := by
      unfold kindV
      rw [if_pos ok, if_pos hr, Int.toNat_natCast, ← hy, ← hP, ← hK]
    rw [e] at h
    exact h
  have hpos : 0 < P → ∃ (Q QK : Nat) (s4 t4 s5 t5 : ByteArray), (P : Int) - 1 = (Q : Int) ∧ (Q : Int) + (K : Int) = (QK : Int) ∧ Q ≤ 2147483647 ∧ ¬ (s4.toList = s5.toList ∧ t4.toList = t5.toList) ∧
      (∀ W : World, Calls Try.prog 25 #[.agg #[.bool false, .string nu, .string de], .int .i64 (dn : Int), .int .i64 (Q : Int)] W (RetVal (.tuple #[.agg #[.bool false, .string s4, .string t4], .int .i64 0]) W)) ∧
      (∀ W : World, Calls Try.prog 25 #[.agg #[.bool false, .string nu, .string de], .int .i64 (dn : Int), .int .i64 (QK : Int)] W (RetVal (.tuple #[.agg #[.bool false, .string s5, .string t5], .int .i64 0]) W)) := fun h0 => by
    refine ⟨P - 1, P - 1 + K, _, _, _, _, by omega, by omega, by omega, ?_, hTu (P - 1) _ _ (by omega) rfl rfl, hTu (P - 1 + K) _ _ (by omega) rfl rfl⟩
    rintro ⟨h1, h2⟩
    have e1 := congrArg (fun s => be (sl s)) (ba_eqB h1)
    have e2 := congrArg (fun s => be (sl s)) (ba_eqB h2)
    simp only [be_natS] at e1 e2
    exact orbit_not (x := x) (by omega) y0 gc hP hK h0 (rd_inj y0 (Prod.ext e1 e2))
  -- the preimages
  obtain ⟨E, hE⟩ : ∃ E, E = backE x y dn := ⟨_, rfl⟩
  obtain ⟨RR, hRR⟩ : ∃ E, E = backR x y dn := ⟨_, rfl⟩
  have hback : ∀ W : World, Calls Try.prog 26 #[.agg #[.bool false, .string nu, .string de], .int .i64 (dn : Int)] W (RetRow 24 3 E RR.length (ratC RR) W) := fun W => by
    have h := aback_any false nu de (dn : Int) W z1 z2
    have e1 : abackE false nu de (dn : Int) = E := by rw [hE, hx, hy]; simp [abackE, ok, hr]
    have e2 : abackR false nu de (dn : Int) = RR := by rw [hRR, hx, hy]; simp [abackR, ok, hr]
    rw [e1, e2] at h
    exact h
  have hcases : (E = 210 ∧ RR = []) ∨ (E = 0 ∧ RR = backL x y dn ∧ ∀ k, k < dn → ∃ (N D A B : Nat), RR[k]? = some (N, D) ∧ (N, D) = bkN x y dn k ∧ 0 < D ∧ 0 < B ∧ okA false (natS N) (natS D) = true ∧ okA false (natS A) (natS B) = true ∧ (A, B) = rd k dn ∧
      (∀ W : World, Calls Try.prog 17 #[.agg #[.bool false, .string (natS N), .string (natS D)], .int .i64 (dn : Int)] W (RetVal (.tuple #[.agg #[.bool false, .string nu, .string de], .int .i64 0]) W)) ∧
      (∀ W : World, Calls Try.prog 34 #[.int .i64 (k : Int), .int .i64 (dn : Int)] W (RetVal (.tuple #[.agg #[.bool false, .string (natS A), .string (natS B)], .int .i64 0]) W))) := by
    cases hbo : backOk x y dn
    · exact Or.inl ⟨by rw [hE]; simp [backE, hbo], by rw [hRR]; simp [backR, hbo]⟩
    · have hRL : RR = backL x y dn := by rw [hRR]; simp [backR, hbo]
      refine Or.inr ⟨by rw [hE]; simp [backE, hbo], hRL, fun k hk => ?_⟩
      have hget : RR[k]? = some (bkN x y dn k) := by rw [hRL]; exact backL_get hk
      have hle : (bkN x y dn k).2 ≤ 2147483647 := by
        unfold backOk at hbo
        rw [List.all_eq_true] at hbo
        simpa using hbo _ (List.mem_of_getElem? (backL_get (x := x) (y := y) hk))
      have hY0 : 0 < y * dn := Nat.mul_pos y0 (by omega)
      have hXY : x + k * y < y * dn := by
        have h1 : (k + 1) * y ≤ dn * y := Nat.mul_le_mul_right y hk
        rw [Nat.add_mul, Nat.one_mul, Nat.mul_comm dn] at h1
        omega
      obtain ⟨f1, f2, f3⟩ := rd_facts hY0 hXY
      rcases hND : bkN x y dn k with ⟨N, D⟩
      have hbr : rd (x + k * y) (y * dn) = (N, D) := hND
      rw [hbr] at f1 f2
      rw [hND] at hget hle
      simp only at f1 f2 hle
      have okN := okA_natS f1 f2 hle
      obtain ⟨e1, e2, e3⟩ := rd_facts (show 0 < dn by omega) hk
      rcases hAB : rd k dn with ⟨A, B⟩
      rw [hAB] at e1 e2 e3
      simp only at e1 e2 e3
      have okAB := okA_natS e1 e2 (show B ≤ 2147483647 by omega)
      refine ⟨N, D, A, B, hget, rfl, by omega, by omega, okN, okAB, rfl, fun W => ?_, fun W => ?_⟩
      · have h := turn1_any false (natS N) (natS D) (dn : Int) W (okA_size okN).1 (okA_size okN).2
        have ht := turnsB_rd (n := 1) okN hr
        rw [show ((1 : Nat) : Int) = 1 from rfl, be_natS, be_natS, back_turn (by omega) lt gc hND.symm, hnx, hny] at ht
        rw [ht] at h
        exact h
      · have h := make_any (k : Int) (dn : Int) W
        have e : makeV (k : Int) (dn : Int) = .tuple #[.agg #[.bool false, .string (natS A), .string (natS B)], .int .i64 0] := by
          have h1 : (1 : Int) ≤ (dn : Int) ∧ (dn : Int) ≤ 2147483647 := by omega
          have h2 : ((k : Int) % (dn : Int)).toNat = k := by
            rw [show (k : Int) % (dn : Int) = ((k % dn : Nat) : Int) by simp, Int.toNat_natCast, Nat.mod_eq_of_lt hk]
          have h3 : (k / Nat.gcd k dn, dn / Nat.gcd k dn) = (A, B) := hAB
          injection h3 with h4 h5
          unfold makeV
          rw [if_pos h1, h2, Int.toNat_natCast, h4, h5]
          rfl
        rw [e] at h
        exact h
  have hparts : ∀ k i N D A B : Nat, (N, D) = bkN x y dn k → (A, B) = rd i dn → 0 < D → 0 < B → okA false (natS N) (natS D) = true → okA false (natS A) (natS B) = true → ∃ C : Int, (0 ≤ C ↔ ¬ x + k * y < i * y) ∧
      ∀ W : World, Calls Try.prog 37 #[.agg #[.bool false, .string (natS N), .string (natS D)], .agg #[.bool false, .string (natS A), .string (natS B)]] W (RetVal (.tuple #[.int .i64 C, .int .i64 0]) W) := fun k i N D A B h1 h2 h3 h4 h5 h6 => by
    refine ⟨cmpN (N * B) (A * D), ?_, fun W => ?_⟩
    · have := back_part (show 0 < dn by omega) lt h1 h2 h3 h4
      rw [← this, ← cmpN_neg]
      omega
    · have h := acmp_any false (natS N) (natS D) false (natS A) (natS B) W (okA_size h5).1 (okA_size h5).2 (okA_size h6).1 (okA_size h6).2
      have e : acmpV false (natS N) (natS D) false (natS A) (natS B) = .tuple #[.int .i64 (cmpN (N * B) (A * D)), .int .i64 0] := by
        unfold acmpV
        rw [h5, h6]
        simp [be_natS]
      rw [e] at h
      exact h
  replace K1 := Lib.hid K1
  replace K2 := Lib.hid K2
  replace K3 := Lib.hid K3
  replace K4 := Lib.hid K4
  replace K5 := Lib.hid K5
  replace Kk := Lib.hid Kk
  replace hpos := Lib.hid hpos
  replace hback := Lib.hid hback
  replace hcases := Lib.hid hcases
  replace hparts := Lib.hid hparts
  have hlow : Hid (∀ k : Nat, ¬ x + k * y < k * y) := Lib.hid (fun k => by omega)
  have hhigh : Hid (∀ k : Nat, x + k * y < (k + 1) * y) := Lib.hid (fun k => by rw [Nat.add_mul, Nat.one_mul]; omega)
  clear hTu hrd hlt hPKt ok1 es1 et1 es2 et2 es3 et3 hE hRR hP hK hMN hPK gc lt le y0 hx hy hnx hny mnu mde ok hr hd z1 z2
  go_enter Try.func10, Try.ntmps10
  go_wp2_with fail
  refine (awake_any _).mono ?_
  rintro en v1 ⟨rfl, hb⟩
  replace ka := Lib.hid (Blk.below ka.out hb)
  replace hBW := Lib.hid (hBW.out.trans (hb.mono hBW.out.size))
  clear hb
  have c0 : v1.cell? ⟨w.heap.size, 0, none⟩ = some (.bool false) := ka.out.cell 0
  have c1 : v1.cell? ⟨w.heap.size, 1, none⟩ = some (.string nu) := ka.out.cell 1
  have c2 : v1.cell? ⟨w.heap.size, 2, none⟩ = some (.string de) := ka.out.cell 2
  go_wp2_with fail
  refine (K1.out _).mono ?_
  rintro en v2 ⟨rfl, hb⟩
  replace ka := (Blk.below ka.out hb).alloc (.cells #[.bool false, .string s1, .string t1] 24)
  have kx := Blk.new v2 24 #[.bool false, .string s1, .string t1]
  replace hBW := hBW.out.trans (hb.mono hBW.out.size)
  replace hBW := hBW.alloc hBW.size (.cells #[.bool false, .string s1, .string t1] 24)
  clear hb c0 c1 c2 
  go_upto_region 6 with fail
  generalize hxx : v2.alloc (.cells #[.bool false, .string s1, .string t1] 24) = v3 at ka kx hBW ⊢
  generalize hgg : v2.heap.size = g1 at *
  clear hxx hgg
  replace ka := Lib.hid ka
  replace kx := Lib.hid kx
  replace hBW := Lib.hid hBW
  have c0 : v3.cell? ⟨g1, 0, none⟩ = some (.bool false) := kx.out.cell 0
  have c1 : v3.cell? ⟨g1, 1, none⟩ = some (.string s1) := kx.out.cell 1
  have c2 : v3.cell? ⟨g1, 2, none⟩ = some (.string t1) := kx.out.cell 2
  go_wp2_with fail
  refine (K2.out _).mono ?_
  rintro en v4 ⟨rfl, hb⟩
  replace ka := (Blk.below ka.out hb).alloc (.cells #[.bool false, .string s2, .string t2] 24)
  have ky := Blk.new v4 24 #[.bool false, .string s2, .string t2]
  replace hBW := hBW.out.trans (hb.mono hBW.out.size)
  replace hBW := hBW.alloc hBW.size (.cells #[.bool false, .string s2, .string t2] 24)
  clear hb c0 c1 c2 kx
  go_upto_region 9 with fail
  generalize hxx : v4.alloc (.cells #[.bool false, .string s2, .string t2] 24) = v5 at ka ky hBW ⊢
  generalize hgg : v4.heap.size = g2 at *
  clear hxx hgg
  replace ka := Lib.hid ka
  replace ky := Lib.hid ky
  replace hBW := Lib.hid hBW
  have c0 : v5.cell? ⟨w.heap.size, 0, none⟩ = some (.bool false) := ka.out.cell 0
  have c1 : v5.cell? ⟨w.heap.size, 1, none⟩ = some (.string nu) := ka.out.cell 1
  have c2 : v5.cell? ⟨w.heap.size, 2, none⟩ = some (.string de) := ka.out.cell 2
  go_wp2_with fail
  refine (K3.out _).mono ?_
  rintro en v6 ⟨rfl, hb⟩
  replace ka := (Blk.below ka.out hb).alloc (.cells #[.bool false, .string s2, .string t2] 24)
  replace ky := (Blk.below ky.out hb).alloc (.cells #[.bool false, .string s2, .string t2] 24)
  have kz := Blk.new v6 24 #[.bool false, .string s2, .string t2]
  replace hBW := hBW.out.trans (hb.mono hBW.out.size)
  replace hBW := hBW.alloc hBW.size (.cells #[.bool false, .string s2, .string t2] 24)
  clear hb c0 c1 c2 
  go_upto_region 10 with fail
  generalize hxx : v6.alloc (.cells #[.bool false, .string s2, .string t2] 24) = v7 at ka ky kz hBW ⊢
  generalize hgg : v6.heap.size = g3 at *
  clear hxx hgg
  replace ka := Lib.hid ka
  replace ky := Lib.hid ky
  replace kz := Lib.hid kz
  replace hBW := Lib.hid hBW
  have c0 : v7.cell? ⟨w.heap.size, 0, none⟩ = some (.bool false) := ka.out.cell 0
  have c1 : v7.cell? ⟨w.heap.size, 1, none⟩ = some (.string nu) := ka.out.cell 1
  have c2 : v7.cell? ⟨w.heap.size, 2, none⟩ = some (.string de) := ka.out.cell 2
  go_wp2_with fail
  refine (Kk.out _).mono ?_
  rintro en v8 ⟨rfl, hb⟩
  replace ka := Lib.hid (Blk.below ka.out hb)
  replace ky := Lib.hid (Blk.below ky.out hb)
  replace kz := Lib.hid (Blk.below kz.out hb)
  replace hBW := Lib.hid (hBW.out.trans (hb.mono hBW.out.size))
  clear hb c0 c1 c2
  have a0 : v8.cell? ⟨g2, 0, none⟩ = some (.bool false) := ky.out.cell 0
  have a1 : v8.cell? ⟨g2, 1, none⟩ = some (.string s2) := ky.out.cell 1
  have a2 : v8.cell? ⟨g2, 2, none⟩ = some (.string t2) := ky.out.cell 2
  have b0 : v8.cell? ⟨g3, 0, none⟩ = some (.bool false) := kz.out.cell 0
  have b1 : v8.cell? ⟨g3, 1, none⟩ = some (.string s2) := kz.out.cell 1
  have b2 : v8.cell? ⟨g3, 2, none⟩ = some (.string t2) := kz.out.cell 2
  have c0 : v8.cell? ⟨w.heap.size, 0, none⟩ = some (.bool false) := ka.out.cell 0
  have c1 : v8.cell? ⟨w.heap.size, 1, none⟩ = some (.string nu) := ka.out.cell 1
  have c2 : v8.cell? ⟨w.heap.size, 2, none⟩ = some (.string de) := ka.out.cell 2
  go_wp2_with fail
  refine (K4.out _).mono ?_
  rintro en v9 ⟨rfl, hb⟩
  replace ka := (Blk.below ka.out hb).alloc (.cells #[.bool false, .string s3, .string t3] 24)
  have ku := Blk.new v9 24 #[.bool false, .string s3, .string t3]
  replace hBW := hBW.out.trans (hb.mono hBW.out.size)
  replace hBW := hBW.alloc hBW.size (.cells #[.bool false, .string s3, .string t3] 24)
  clear hb c0 c1 c2 a0 a1 a2 b0 b1 b2 ky kz
  go_upto_region 14 with fail
  generalize hxx : v9.alloc (.cells #[.bool false, .string s3, .string t3] 24) = x1 at ka ku hBW ⊢
  generalize hgg : v9.heap.size = g4 at *
  clear hxx hgg
  replace ka := Lib.hid ka
  replace ku := Lib.hid ku
  replace hBW := Lib.hid hBW
  have c0 : x1.cell? ⟨w.heap.size, 0, none⟩ = some (.bool false) := ka.out.cell 0
  have c1 : x1.cell? ⟨w.heap.size, 1, none⟩ = some (.string nu) := ka.out.cell 1
  have c2 : x1.cell? ⟨w.heap.size, 2, none⟩ = some (.string de) := ka.out.cell 2
  go_wp2_with fail
  refine (K5.out _).mono ?_
  rintro en x2 ⟨rfl, hb⟩
  replace ka := (Blk.below ka.out hb).alloc (.cells #[.bool false, .string s3, .string t3] 24)
  replace ku := (Blk.below ku.out hb).alloc (.cells #[.bool false, .string s3, .string t3] 24)
  have kv := Blk.new x2 24 #[.bool false, .string s3, .string t3]
  replace hBW := hBW.out.trans (hb.mono hBW.out.size)
  replace hBW := hBW.alloc hBW.size (.cells #[.bool false, .string s3, .string t3] 24)
  clear hb c0 c1 c2 
  go_upto_region 15 with fail
  generalize hxx : x2.alloc (.cells #[.bool false, .string s3, .string t3] 24) = x3 at ka ku kv hBW ⊢
  generalize hgg : x2.heap.size = g5 at *
  clear hxx hgg
  replace ka := Lib.hid ka
  replace ku := Lib.hid ku
  replace kv := Lib.hid kv
  replace hBW := Lib.hid hBW
  have a0 : x3.cell? ⟨g4, 0, none⟩ = some (.bool false) := ku.out.cell 0
  have a1 : x3.cell? ⟨g4, 1, none⟩ = some (.string s3) := ku.out.cell 1
  have a2 : x3.cell? ⟨g4, 2, none⟩ = some (.string t3) := ku.out.cell 2
  have b0 : x3.cell? ⟨g5, 0, none⟩ = some (.bool false) := kv.out.cell 0
  have b1 : x3.cell? ⟨g5, 1, none⟩ = some (.string s3) := kv.out.cell 1
  have b2 : x3.cell? ⟨g5, 2, none⟩ = some (.string t3) := kv.out.cell 2
  clear ku kv
  go_upto_region 17 with fail
  clear a0 a1 a2 b0 b1 b2
  by_cases hP0 : 0 < P
  · obtain ⟨Q, QK, s4, t4, s5, t5, iQ, iQK, hQ, hne, d1, d2⟩ := hpos.out hP0
    have hP0I : (0 : Int) < (P : Int) := by omega
    replace d1 := Lib.hid d1
    replace d2 := Lib.hid d2
    replace hne := Lib.hid hne
    have c0 : x3.cell? ⟨w.heap.size, 0, none⟩ = some (.bool false) := ka.out.cell 0
    have c1 : x3.cell? ⟨w.heap.size, 1, none⟩ = some (.string nu) := ka.out.cell 1
    have c2 : x3.cell? ⟨w.heap.size, 2, none⟩ = some (.string de) := ka.out.cell 2
    go_wp2_with fail
    refine (d1.out _).mono ?_
    rintro en x4 ⟨rfl, hb⟩
    replace ka := (Blk.below ka.out hb).alloc (.cells #[.bool false, .string s4, .string t4] 24)
    have ku := Blk.new x4 24 #[.bool false, .string s4, .string t4]
    replace hBW := hBW.out.trans (hb.mono hBW.out.size)
    replace hBW := hBW.alloc hBW.size (.cells #[.bool false, .string s4, .string t4] 24)
    clear hb c0 c1 c2 
    go_upto_region 19 with fail
    generalize hxx : x4.alloc (.cells #[.bool false, .string s4, .string t4] 24) = x5 at ka ku hBW ⊢
    generalize hgg : x4.heap.size = g6 at *
    clear hxx hgg
    replace ka := Lib.hid ka
    replace ku := Lib.hid ku
    replace hBW := Lib.hid hBW
    have c0 : x5.cell? ⟨w.heap.size, 0, none⟩ = some (.bool false) := ka.out.cell 0
    have c1 : x5.cell? ⟨w.heap.size, 1, none⟩ = some (.string nu) := ka.out.cell 1
    have c2 : x5.cell? ⟨w.heap.size, 2, none⟩ = some (.string de) := ka.out.cell 2
    go_wp2_with fail
    refine (d2.out _).mono ?_
    rintro en x6 ⟨rfl, hb⟩
    replace ka := (Blk.below ka.out hb).alloc (.cells #[.bool false, .string s5, .string t5] 24)
    replace ku := (Blk.below ku.out hb).alloc (.cells #[.bool false, .string s5, .string t5] 24)
    have kv := Blk.new x6 24 #[.bool false, .string s5, .string t5]
    replace hBW := hBW.out.trans (hb.mono hBW.out.size)
    replace hBW := hBW.alloc hBW.size (.cells #[.bool false, .string s5, .string t5] 24)
    clear hb c0 c1 c2 
    go_upto_region 20 with fail
    generalize hxx : x6.alloc (.cells #[.bool false, .string s5, .string t5] 24) = x7 at ka ku kv hBW ⊢
    generalize hgg : x6.heap.size = g7 at *
    clear hxx hgg
    replace ka := Lib.hid ka
    replace ku := Lib.hid ku
    replace kv := Lib.hid kv
    replace hBW := Lib.hid hBW
    have a0 : x7.cell? ⟨g6, 0, none⟩ = some (.bool false) := ku.out.cell 0
    have a1 : x7.cell? ⟨g6, 1, none⟩ = some (.string s4) := ku.out.cell 1
    have a2 : x7.cell? ⟨g6, 2, none⟩ = some (.string t4) := ku.out.cell 2
    have b0 : x7.cell? ⟨g7, 0, none⟩ = some (.bool false) := kv.out.cell 0
    have b1 : x7.cell? ⟨g7, 1, none⟩ = some (.string s5) := kv.out.cell 1
    have b2 : x7.cell? ⟨g7, 2, none⟩ = some (.string t5) := kv.out.cell 2
    clear ku kv
    go_cut [154] from 144 to 154 (fun c wx => c = .bool false ∧ wx = x7)
    case first =>
      go_wp2_with fail
      all_goals
        go_meet
        case rel => first | exact ⟨rfl, rfl⟩ | exact (hne.out ⟨by assumption, by assumption⟩).elim
    case rest =>
      obtain ⟨rfl, rfl⟩ := hcut
      clear a0 a1 a2 b0 b1 b2
      have c0 : wc.cell? ⟨w.heap.size, 0, none⟩ = some (.bool false) := ka.out.cell 0
      have c1 : wc.cell? ⟨w.heap.size, 1, none⟩ = some (.string nu) := ka.out.cell 1
      have c2 : wc.cell? ⟨w.heap.size, 2, none⟩ = some (.string de) := ka.out.cell 2
      go_wp2_with fail
      refine (hback.out _).mono ?_
      rintro en y1 ⟨lv, rfl, hl, hb⟩
      have hszl := hBW.out.size
      replace hl := Lib.hid (own_le hl hszl)
      replace ka := Lib.hid (Blk.below ka.out hb)
      replace hBW := Lib.hid (hBW.out.trans (hb.mono hBW.out.size))
      clear hb hszl c0 c1 c2
      rcases hcases.out with ⟨e1, e2⟩ | ⟨e1, e2, hall⟩
      · subst e1 e2
        rcases own_formsB hl.out with ⟨rfl, -⟩ | ⟨gl, capl, rfl⟩
        · clear hl
          go_wp2_with fail
          go_ret
          exact ⟨rfl, hBW.out⟩
        · clear hl
          simp only [List.length_nil]
          go_wp2_with fail
          go_ret
          exact ⟨rfl, hBW.out⟩
      subst e1
      have hlen : RR.length = dn := by rw [e2, backL_len]
      rcases own_formsB hl.out with ⟨rfl, hn0⟩ | ⟨gl, capl, rfl⟩
      · omega
      rw [hlen] at hl ⊢
      have hszd : dn ≤ 64 := hdn
      replace hall := Lib.hid hall
      clear e2 hlen
      go_wp2_with fail
      go_loopw [24] (fun i wr => ∃ k : Nat, i = .int .i64 (k : Int) ∧ k ≤ dn ∧ wr.ownsRow w.heap.size 24 3 (.slice (some ⟨gl, 0, none⟩) dn capl) dn (ratC RR) ∧ Blk wr w.heap.size 24 #[.bool false, .string nu, .string de] ∧ Below w.heap.size w wr) (fun i _ => dn - (intOf i).toNat)
      case atStart => exact ⟨0, rfl, Nat.zero_le _, hl.out, ka.out, hBW.out⟩
      case round =>
        obtain ⟨k, rfl, hk, hl, ka, hBW⟩ := hrel
        replace hl := Lib.hid hl
        replace ka := Lib.hid ka
        replace hBW := Lib.hid hBW
        by_cases h0 : k < dn
        · have h0I : (k : Int) < (dn : Int) := by omega
          obtain ⟨N, D, A, B, hget, hbk, hD, hB, okN, okB, hAB, hturn, hmake⟩ := hall.out k h0
          obtain ⟨C, hC, hcmp⟩ := hparts.out k k N D A B hbk hAB hD hB okN okB
          have hC0 : ¬ C < 0 := by have := hC.2 (hlow.out k); omega
          have hprev : 0 < k → ∃ (j N2 D2 : Nat) (C2 : Int), k = j + 1 ∧ RR[j]? = some (N2, D2) ∧ C2 < 0 ∧ ∀ W : World, Calls Try.prog 37 #[.agg #[.bool false, .string (natS N2), .string (natS D2)], .agg #[.bool false, .string (natS A), .string (natS B)]] W (RetVal (.tuple #[.int .i64 C2, .int .i64 0]) W) := fun hk0 => by
            obtain ⟨j, rfl⟩ : ∃ j, k = j + 1 := ⟨k - 1, by omega⟩
            obtain ⟨N2, D2, A2, B2, hget2, hbk2, hD2, hB2, okN2, okB2, hAB2, -, -⟩ := hall.out j (by omega)
            obtain ⟨C2, hC2, hcmp2⟩ := hparts.out j (j + 1) N2 D2 A B hbk2 hAB hD2 hB okN2 okB
            refine ⟨j, N2, D2, C2, rfl, hget2, ?_, hcmp2⟩
            rcases Int.lt_or_le C2 0 with h | h
            · exact h
            · exact absurd (hhigh.out j) (hC2.1 h)
          obtain ⟨r0, r1, r2⟩ := ratC_get RR k (N, D) hget
          replace hturn := Lib.hid hturn
          replace hmake := Lib.hid hmake
          replace hcmp := Lib.hid hcmp
          replace hprev := Lib.hid hprev
          clear hbk hAB hD hB okN okB hget hC
          have c0 : wr.cell? ⟨gl, k * 3, none⟩ = some (.bool false) := by rw [hl.out.cellAt _ (by omega)]; exact r0
          have c1 : wr.cell? ⟨gl, k * 3 + 1, none⟩ = some (.string (natS N)) := by rw [hl.out.cellAt _ (by omega)]; exact r1
          have c2 : wr.cell? ⟨gl, k * 3 + 2, none⟩ = some (.string (natS D)) := by rw [hl.out.cellAt _ (by omega)]; exact r2
          replace r0 := Lib.hid r0
          replace r1 := Lib.hid r1
          replace r2 := Lib.hid r2
          go_wp2_with fail
          refine (hturn.out _).mono ?_
          rintro en q1 ⟨rfl, hb⟩
          replace ka := (Blk.below ka.out hb).alloc (.cells #[.bool false, .string nu, .string de] 24)
          replace hl := (own_below hl.out hb).alloc (.cells #[.bool false, .string nu, .string de] 24)
          have kt := Blk.new q1 24 #[.bool false, .string nu, .string de]
          replace hBW := hBW.out.trans (hb.mono hBW.out.size)
          replace hBW := hBW.alloc hBW.size (.cells #[.bool false, .string nu, .string de] 24)
          clear hb c0 c1 c2
          go_upto_region 31 with fail
          generalize hxx : q1.alloc (.cells #[.bool false, .string nu, .string de] 24) = q2 at ka hl kt hBW ⊢
          generalize hgg : q1.heap.size = e1 at *
          clear hxx hgg
          replace ka := Lib.hid ka
          replace hl := Lib.hid hl
          replace kt := Lib.hid kt
          replace hBW := Lib.hid hBW
          go_wp2_with fail
          refine (hmake.out _).mono ?_
          rintro en q3 ⟨rfl, hb⟩
          replace ka := (Blk.below ka.out hb).alloc (.cells #[.bool false, .string (natS A), .string (natS B)] 24)
          replace kt := (Blk.below kt.out hb).alloc (.cells #[.bool false, .string (natS A), .string (natS B)] 24)
          replace hl := (own_below hl.out hb).alloc (.cells #[.bool false, .string (natS A), .string (natS B)] 24)
          have kl := Blk.new q3 24 #[.bool false, .string (natS A), .string (natS B)]
          replace hBW := hBW.out.trans (hb.mono hBW.out.size)
          replace hBW := hBW.alloc hBW.size (.cells #[.bool false, .string (natS A), .string (natS B)] 24)
          clear hb 
          go_upto_region 32 with fail
          generalize hxx : q3.alloc (.cells #[.bool false, .string (natS A), .string (natS B)] 24) = q4 at ka kt hl kl hBW ⊢
          generalize hgg : q3.heap.size = e2 at *
          clear hxx hgg
          replace ka := Lib.hid ka
          replace kt := Lib.hid kt
          replace hl := Lib.hid hl
          replace kl := Lib.hid kl
          replace hBW := Lib.hid hBW
          have b0 : ∀ d os, (grow (redrawn q4 d) os).cell? ⟨gl, k * 3, none⟩ = some (.bool false) := cell_regrown (by rw [hl.out.cellAt _ (by omega)]; exact r0.out)
          have b1 : ∀ d os, (grow (redrawn q4 d) os).cell? ⟨gl, k * 3 + 1, none⟩ = some (.string (natS N)) := cell_regrown (by rw [hl.out.cellAt _ (by omega)]; exact r1.out)
          have b2 : ∀ d os, (grow (redrawn q4 d) os).cell? ⟨gl, k * 3 + 2, none⟩ = some (.string (natS D)) := cell_regrown (by rw [hl.out.cellAt _ (by omega)]; exact r2.out)
          have a0 : ∀ d os, (grow (redrawn q4 d) os).cell? ⟨e2, 0, none⟩ = some (.bool false) := cell_regrown (Blk.cell kl.out 0)
          have a1 : ∀ d os, (grow (redrawn q4 d) os).cell? ⟨e2, 1, none⟩ = some (.string (natS A)) := cell_regrown (Blk.cell kl.out 1)
          have a2 : ∀ d os, (grow (redrawn q4 d) os).cell? ⟨e2, 2, none⟩ = some (.string (natS B)) := cell_regrown (Blk.cell kl.out 2)
          have cc : ∀ d os, Calls Try.prog 37 #[.agg #[.bool false, .string (natS N), .string (natS D)], .agg #[.bool false, .string (natS A), .string (natS B)]] (grow (redrawn q4 d) os) fun e w'' => e = .returned (.tuple #[.int .i64 C, .int .i64 0]) ∧ ∃ p : Regrown, w'' = grow (redrawn q4 p.d) p.os := fun d os => Calls.regrown_of (hcmp.out _)
          refine wp_region_quiet_below (by kernel_rfl) (by kernel_rfl) ?_
          iterate 5 (quiet_step (fail))
          quiet_step (exact cc _ _)
          iterate 5 (quiet_step (fail))
          refine wpQuiet_nil ?_
          intro q5 hw'
          have hb : Below q4.heap.size q4 q5 := by
            obtain ⟨p, rfl⟩ := hw'
            exact below_regrown q4 p.d p.os
          clear hw'
          replace ka := Lib.hid (Blk.below ka.out hb)
          replace kt := Lib.hid (Blk.below kt.out hb)
          replace kl := Lib.hid (Blk.below kl.out hb)
          replace hl := Lib.hid (own_below hl.out hb)
          replace hBW := Lib.hid (hBW.out.trans (hb.mono hBW.out.size))
          clear hb cc a0 a1 a2 b0 b1 b2 r0 r1 r2
          have a0 : q5.cell? ⟨e1, 0, none⟩ = some (.bool false) := kt.out.cell 0
          have a1 : q5.cell? ⟨e1, 1, none⟩ = some (.string nu) := kt.out.cell 1
          have a2 : q5.cell? ⟨e1, 2, none⟩ = some (.string de) := kt.out.cell 2
          have b0 : q5.cell? ⟨w.heap.size, 0, none⟩ = some (.bool false) := ka.out.cell 0
          have b1 : q5.cell? ⟨w.heap.size, 1, none⟩ = some (.string nu) := ka.out.cell 1
          have b2 : q5.cell? ⟨w.heap.size, 2, none⟩ = some (.string de) := ka.out.cell 2
          by_cases hk0 : 0 < k
          · have hk0I : (0 : Int) < (k : Int) := by omega
            obtain ⟨j, N2, D2, C2, hkj, hget2, hC2, hcmp2⟩ := hprev.out hk0
            obtain ⟨r0, r1, r2⟩ := ratC_get RR j (N2, D2) hget2
            have hji : (k : Int) - 1 = (j : Int) := by omega
            have hjd : j < dn := by omega
            have hjI : (j : Int) < (dn : Int) := by omega
            have hjw : IntKind.i64.wrap (j : Int) = (j : Int) := by rw [IntKind.wrap_i64]; omega
            have hC2n : ¬ 0 ≤ C2 := by omega
            replace hkj := Lib.hid hkj
            clear hget2
            go_upto_region 36 with fail
            clear a0 a1 a2 b0 b1 b2
            have b0 : ∀ d os, (grow (redrawn q5 d) os).cell? ⟨gl, j * 3, none⟩ = some (.bool false) := cell_regrown (by rw [hl.out.cellAt _ (by omega)]; exact r0)
            have b1 : ∀ d os, (grow (redrawn q5 d) os).cell? ⟨gl, j * 3 + 1, none⟩ = some (.string (natS N2)) := cell_regrown (by rw [hl.out.cellAt _ (by omega)]; exact r1)
            have b2 : ∀ d os, (grow (redrawn q5 d) os).cell? ⟨gl, j * 3 + 2, none⟩ = some (.string (natS D2)) := cell_regrown (by rw [hl.out.cellAt _ (by omega)]; exact r2)
            clear r0 r1 r2
            have a0 : ∀ d os, (grow (redrawn q5 d) os).cell? ⟨e2, 0, none⟩ = some (.bool false) := cell_regrown (Blk.cell kl.out 0)
            have a1 : ∀ d os, (grow (redrawn q5 d) os).cell? ⟨e2, 1, none⟩ = some (.string (natS A)) := cell_regrown (Blk.cell kl.out 1)
            have a2 : ∀ d os, (grow (redrawn q5 d) os).cell? ⟨e2, 2, none⟩ = some (.string (natS B)) := cell_regrown (Blk.cell kl.out 2)
            have cc : ∀ d os, Calls Try.prog 37 #[.agg #[.bool false, .string (natS N2), .string (natS D2)], .agg #[.bool false, .string (natS A), .string (natS B)]] (grow (redrawn q5 d) os) fun e w'' => e = .returned (.tuple #[.int .i64 C2, .int .i64 0]) ∧ ∃ p : Regrown, w'' = grow (redrawn q5 p.d) p.os := fun d os => Calls.regrown_of (hcmp2 _)
            clear hcmp2
            refine wp_region_quiet_below (by kernel_rfl) (by kernel_rfl) ?_
            iterate 6 (quiet_step (fail))
            quiet_step (exact cc _ _)
            iterate 5 (quiet_step (fail))
            refine wpQuiet_nil ?_
            intro q6 hw'
            have hb : Below q5.heap.size q5 q6 := by
              obtain ⟨p, rfl⟩ := hw'
              exact below_regrown q5 p.d p.os
            clear hw'
            replace ka := Lib.hid (Blk.below ka.out hb)
            replace hl := Lib.hid (own_below hl.out hb)
            replace hBW := Lib.hid (hBW.out.trans (hb.mono hBW.out.size))
            clear hb cc a0 a1 a2 b0 b1 b2 kt kl
            go_wp2_with fail
            go_roundw
            case rel => exact ⟨k + 1, by go_num, by omega, hl.out, ka.out, hBW.out⟩
            case measure => simp [intOf]; omega
          · have hk0I : ¬ (0 : Int) < (k : Int) := by omega
            go_wp2_with fail
            go_roundw
            case rel => exact ⟨k + 1, by go_num, by omega, hl.out, ka.out, hBW.out⟩
            case measure => simp [intOf]; omega
        · have h0I : ¬ (k : Int) < (dn : Int) := by omega
          go_wp2_with fail
          go_ret
          exact ⟨rfl, hBW.out⟩
  · have hP0I : ¬ (0 : Int) < (P : Int) := by omega
    have c0 : x3.cell? ⟨w.heap.size, 0, none⟩ = some (.bool false) := ka.out.cell 0
    have c1 : x3.cell? ⟨w.heap.size, 1, none⟩ = some (.string nu) := ka.out.cell 1
    have c2 : x3.cell? ⟨w.heap.size, 2, none⟩ = some (.string de) := ka.out.cell 2
    go_wp2_with fail
    refine (hback.out _).mono ?_
    rintro en y1 ⟨lv, rfl, hl, hb⟩
    have hszl := hBW.out.size
    replace hl := Lib.hid (own_le hl hszl)
    replace ka := Lib.hid (Blk.below ka.out hb)
    replace hBW := Lib.hid (hBW.out.trans (hb.mono hBW.out.size))
    clear hb hszl c0 c1 c2
    rcases hcases.out with ⟨e1, e2⟩ | ⟨e1, e2, hall⟩
    · subst e1 e2
      rcases own_formsB hl.out with ⟨rfl, -⟩ | ⟨gl, capl, rfl⟩
      · clear hl
        go_wp2_with fail
        go_ret
        exact ⟨rfl, hBW.out⟩
      · clear hl
        simp only [List.length_nil]
        go_wp2_with fail
        go_ret
        exact ⟨rfl, hBW.out⟩
    subst e1
    have hlen : RR.length = dn := by rw [e2, backL_len]
    rcases own_formsB hl.out with ⟨rfl, hn0⟩ | ⟨gl, capl, rfl⟩
    · omega
    rw [hlen] at hl ⊢
    have hszd : dn ≤ 64 := hdn
    replace hall := Lib.hid hall
    clear e2 hlen
    go_wp2_with fail
    go_loopw [24] (fun i wr => ∃ k : Nat, i = .int .i64 (k : Int) ∧ k ≤ dn ∧ wr.ownsRow w.heap.size 24 3 (.slice (some ⟨gl, 0, none⟩) dn capl) dn (ratC RR) ∧ Blk wr w.heap.size 24 #[.bool false, .string nu, .string de] ∧ Below w.heap.size w wr) (fun i _ => dn - (intOf i).toNat)
    case atStart => exact ⟨0, rfl, Nat.zero_le _, hl.out, ka.out, hBW.out⟩
    case round =>
      obtain ⟨k, rfl, hk, hl, ka, hBW⟩ := hrel
      replace hl := Lib.hid hl
      replace ka := Lib.hid ka
      replace hBW := Lib.hid hBW
      by_cases h0 : k < dn
      · have h0I : (k : Int) < (dn : Int) := by omega
        obtain ⟨N, D, A, B, hget, hbk, hD, hB, okN, okB, hAB, hturn, hmake⟩ := hall.out k h0
        obtain ⟨C, hC, hcmp⟩ := hparts.out k k N D A B hbk hAB hD hB okN okB
        have hC0 : ¬ C < 0 := by have := hC.2 (hlow.out k); omega
        have hprev : 0 < k → ∃ (j N2 D2 : Nat) (C2 : Int), k = j + 1 ∧ RR[j]? = some (N2, D2) ∧ C2 < 0 ∧ ∀ W : World, Calls Try.prog 37 #[.agg #[.bool false, .string (natS N2), .string (natS D2)], .agg #[.bool false, .string (natS A), .string (natS B)]] W (RetVal (.tuple #[.int .i64 C2, .int .i64 0]) W) := fun hk0 => by
          obtain ⟨j, rfl⟩ : ∃ j, k = j + 1 := ⟨k - 1, by omega⟩
          obtain ⟨N2, D2, A2, B2, hget2, hbk2, hD2, hB2, okN2, okB2, hAB2, -, -⟩ := hall.out j (by omega)
          obtain ⟨C2, hC2, hcmp2⟩ := hparts.out j (j + 1) N2 D2 A B hbk2 hAB hD2 hB okN2 okB
          refine ⟨j, N2, D2, C2, rfl, hget2, ?_, hcmp2⟩
          rcases Int.lt_or_le C2 0 with h | h
          · exact h
          · exact absurd (hhigh.out j) (hC2.1 h)
        obtain ⟨r0, r1, r2⟩ := ratC_get RR k (N, D) hget
        replace hturn := Lib.hid hturn
        replace hmake := Lib.hid hmake
        replace hcmp := Lib.hid hcmp
        replace hprev := Lib.hid hprev
        clear hbk hAB hD hB okN okB hget hC
        have c0 : wr.cell? ⟨gl, k * 3, none⟩ = some (.bool false) := by rw [hl.out.cellAt _ (by omega)]; exact r0
        have c1 : wr.cell? ⟨gl, k * 3 + 1, none⟩ = some (.string (natS N)) := by rw [hl.out.cellAt _ (by omega)]; exact r1
        have c2 : wr.cell? ⟨gl, k * 3 + 2, none⟩ = some (.string (natS D)) := by rw [hl.out.cellAt _ (by omega)]; exact r2
        replace r0 := Lib.hid r0
        replace r1 := Lib.hid r1
        replace r2 := Lib.hid r2
        go_wp2_with fail
        refine (hturn.out _).mono ?_
        rintro en q1 ⟨rfl, hb⟩
        replace ka := (Blk.below ka.out hb).alloc (.cells #[.bool false, .string nu, .string de] 24)
        replace hl := (own_below hl.out hb).alloc (.cells #[.bool false, .string nu, .string de] 24)
        have kt := Blk.new q1 24 #[.bool false, .string nu, .string de]
        replace hBW := hBW.out.trans (hb.mono hBW.out.size)
        replace hBW := hBW.alloc hBW.size (.cells #[.bool false, .string nu, .string de] 24)
        clear hb c0 c1 c2
        go_upto_region 31 with fail
        generalize hxx : q1.alloc (.cells #[.bool false, .string nu, .string de] 24) = q2 at ka hl kt hBW ⊢
        generalize hgg : q1.heap.size = e1 at *
        clear hxx hgg
        replace ka := Lib.hid ka
        replace hl := Lib.hid hl
        replace kt := Lib.hid kt
        replace hBW := Lib.hid hBW
        go_wp2_with fail
        refine (hmake.out _).mono ?_
        rintro en q3 ⟨rfl, hb⟩
        replace ka := (Blk.below ka.out hb).alloc (.cells #[.bool false, .string (natS A), .string (natS B)] 24)
        replace kt := (Blk.below kt.out hb).alloc (.cells #[.bool false, .string (natS A), .string (natS B)] 24)
        replace hl := (own_below hl.out hb).alloc (.cells #[.bool false, .string (natS A), .string (natS B)] 24)
        have kl := Blk.new q3 24 #[.bool false, .string (natS A), .string (natS B)]
        replace hBW := hBW.out.trans (hb.mono hBW.out.size)
        replace hBW := hBW.alloc hBW.size (.cells #[.bool false, .string (natS A), .string (natS B)] 24)
        clear hb 
        go_upto_region 32 with fail
        generalize hxx : q3.alloc (.cells #[.bool false, .string (natS A), .string (natS B)] 24) = q4 at ka kt hl kl hBW ⊢
        generalize hgg : q3.heap.size = e2 at *
        clear hxx hgg
        replace ka := Lib.hid ka
        replace kt := Lib.hid kt
        replace hl := Lib.hid hl
        replace kl := Lib.hid kl
        replace hBW := Lib.hid hBW
        have b0 : ∀ d os, (grow (redrawn q4 d) os).cell? ⟨gl, k * 3, none⟩ = some (.bool false) := cell_regrown (by rw [hl.out.cellAt _ (by omega)]; exact r0.out)
        have b1 : ∀ d os, (grow (redrawn q4 d) os).cell? ⟨gl, k * 3 + 1, none⟩ = some (.string (natS N)) := cell_regrown (by rw [hl.out.cellAt _ (by omega)]; exact r1.out)
        have b2 : ∀ d os, (grow (redrawn q4 d) os).cell? ⟨gl, k * 3 + 2, none⟩ = some (.string (natS D)) := cell_regrown (by rw [hl.out.cellAt _ (by omega)]; exact r2.out)
        have a0 : ∀ d os, (grow (redrawn q4 d) os).cell? ⟨e2, 0, none⟩ = some (.bool false) := cell_regrown (Blk.cell kl.out 0)
        have a1 : ∀ d os, (grow (redrawn q4 d) os).cell? ⟨e2, 1, none⟩ = some (.string (natS A)) := cell_regrown (Blk.cell kl.out 1)
        have a2 : ∀ d os, (grow (redrawn q4 d) os).cell? ⟨e2, 2, none⟩ = some (.string (natS B)) := cell_regrown (Blk.cell kl.out 2)
        have cc : ∀ d os, Calls Try.prog 37 #[.agg #[.bool false, .string (natS N), .string (natS D)], .agg #[.bool false, .string (natS A), .string (natS B)]] (grow (redrawn q4 d) os) fun e w'' => e = .returned (.tuple #[.int .i64 C, .int .i64 0]) ∧ ∃ p : Regrown, w'' = grow (redrawn q4 p.d) p.os := fun d os => Calls.regrown_of (hcmp.out _)
        refine wp_region_quiet_below (by kernel_rfl) (by kernel_rfl) ?_
        iterate 5 (quiet_step (fail))
        quiet_step (exact cc _ _)
        iterate 5 (quiet_step (fail))
        refine wpQuiet_nil ?_
        intro q5 hw'
        have hb : Below q4.heap.size q4 q5 := by
          obtain ⟨p, rfl⟩ := hw'
          exact below_regrown q4 p.d p.os
        clear hw'
        replace ka := Lib.hid (Blk.below ka.out hb)
        replace kt := Lib.hid (Blk.below kt.out hb)
        replace kl := Lib.hid (Blk.below kl.out hb)
        replace hl := Lib.hid (own_below hl.out hb)
        replace hBW := Lib.hid (hBW.out.trans (hb.mono hBW.out.size))
        clear hb cc a0 a1 a2 b0 b1 b2 r0 r1 r2
        have a0 : q5.cell? ⟨e1, 0, none⟩ = some (.bool false) := kt.out.cell 0
        have a1 : q5.cell? ⟨e1, 1, none⟩ = some (.string nu) := kt.out.cell 1
        have a2 : q5.cell? ⟨e1, 2, none⟩ = some (.string de) := kt.out.cell 2
        have b0 : q5.cell? ⟨w.heap.size, 0, none⟩ = some (.bool false) := ka.out.cell 0
        have b1 : q5.cell? ⟨w.heap.size, 1, none⟩ = some (.string nu) := ka.out.cell 1
        have b2 : q5.cell? ⟨w.heap.size, 2, none⟩ = some (.string de) := ka.out.cell 2
        by_cases hk0 : 0 < k
        · have hk0I : (0 : Int) < (k : Int) := by omega
          obtain ⟨j, N2, D2, C2, hkj, hget2, hC2, hcmp2⟩ := hprev.out hk0
          obtain ⟨r0, r1, r2⟩ := ratC_get RR j (N2, D2) hget2
          have hji : (k : Int) - 1 = (j : Int) := by omega
          have hjd : j < dn := by omega
          have hjI : (j : Int) < (dn : Int) := by omega
          have hjw : IntKind.i64.wrap (j : Int) = (j : Int) := by rw [IntKind.wrap_i64]; omega
          have hC2n : ¬ 0 ≤ C2 := by omega
          replace hkj := Lib.hid hkj
          clear hget2
          go_upto_region 36 with fail
          clear a0 a1 a2 b0 b1 b2
          have b0 : ∀ d os, (grow (redrawn q5 d) os).cell? ⟨gl, j * 3, none⟩ = some (.bool false) := cell_regrown (by rw [hl.out.cellAt _ (by omega)]; exact r0)
          have b1 : ∀ d os, (grow (redrawn q5 d) os).cell? ⟨gl, j * 3 + 1, none⟩ = some (.string (natS N2)) := cell_regrown (by rw [hl.out.cellAt _ (by omega)]; exact r1)
          have b2 : ∀ d os, (grow (redrawn q5 d) os).cell? ⟨gl, j * 3 + 2, none⟩ = some (.string (natS D2)) := cell_regrown (by rw [hl.out.cellAt _ (by omega)]; exact r2)
          clear r0 r1 r2
          have a0 : ∀ d os, (grow (redrawn q5 d) os).cell? ⟨e2, 0, none⟩ = some (.bool false) := cell_regrown (Blk.cell kl.out 0)
          have a1 : ∀ d os, (grow (redrawn q5 d) os).cell? ⟨e2, 1, none⟩ = some (.string (natS A)) := cell_regrown (Blk.cell kl.out 1)
          have a2 : ∀ d os, (grow (redrawn q5 d) os).cell? ⟨e2, 2, none⟩ = some (.string (natS B)) := cell_regrown (Blk.cell kl.out 2)
          have cc : ∀ d os, Calls Try.prog 37 #[.agg #[.bool false, .string (natS N2), .string (natS D2)], .agg #[.bool false, .string (natS A), .string (natS B)]] (grow (redrawn q5 d) os) fun e w'' => e = .returned (.tuple #[.int .i64 C2, .int .i64 0]) ∧ ∃ p : Regrown, w'' = grow (redrawn q5 p.d) p.os := fun d os => Calls.regrown_of (hcmp2 _)
          clear hcmp2
          refine wp_region_quiet_below (by kernel_rfl) (by kernel_rfl) ?_
          iterate 6 (quiet_step (fail))
          quiet_step (exact cc _ _)
          iterate 5 (quiet_step (fail))
          refine wpQuiet_nil ?_
          intro q6 hw'
          have hb : Below q5.heap.size q5 q6 := by
            obtain ⟨p, rfl⟩ := hw'
            exact below_regrown q5 p.d p.os
          clear hw'
          replace ka := Lib.hid (Blk.below ka.out hb)
          replace hl := Lib.hid (own_below hl.out hb)
          replace hBW := Lib.hid (hBW.out.trans (hb.mono hBW.out.size))
          clear hb cc a0 a1 a2 b0 b1 b2 kt kl
          go_wp2_with fail
          go_roundw
          case rel => exact ⟨k + 1, by go_num, by omega, hl.out, ka.out, hBW.out⟩
          case measure => simp [intOf]; omega
        · have hk0I : ¬ (0 : Int) < (k : Int) := by omega
          go_wp2_with fail
          go_roundw
          case rel => exact ⟨k + 1, by go_num, by omega, hl.out, ka.out, hBW.out⟩
          case measure => simp [intOf]; omega
      · have h0I : ¬ (k : Int) < (dn : Int) := by omega
        go_wp2_with fail
        go_ret
        exact ⟨rfl, hBW.out⟩
end Go.Proofs.Ytciafmnideihjaa
