import Derived.Test.YtnaadajcehfmiaaGreatDoorLvF
/- filigreeref11: two, Whole. -/
namespace Go.Proofs.YtnaadajcehfmiaaGreatDoor
open Go.RowKit Go.Sort Go.Maps

section
variable {T0 : List Tok} {last : Nat} {wrong : Bool} {B p i : Nat} {X : List It} {o : Int} {oN : Nat} {N : List Nod} {H : List Nat} {U : List (List Nat × Nat)} {wh cd : Nat} {st : PS} {w w' : World}
theorem PostV.pre {w0 : World} {r : PR Nat} {e : Ending} (h : PostV T0 last wrong B p X oN st w r e w') (hb : Below B w0 w) : PostV T0 last wrong B p X oN st w0 r e w' := by
  cases r with
  | ok v st' =>
    obtain ⟨h1, h2, h3, h4⟩ := h
    exact ⟨h1, h2, hb.trans h3, h4⟩
  | no a c =>
    obtain ⟨h1, h2, h3, h4⟩ := h
    exact ⟨h1, h2, hb.trans h3, h4⟩
/-- How high the parts are, in memory. -/
theorem RvM.high (h : RvM T0 last wrong B p X o i N st.H U wh cd w) (hk : RvOk T0 i st) {k : Nat} (hkN : k < st.N.length) : ∃ (g c : Nat), w.cell? ⟨p, 6, none⟩ = some (.slice (some ⟨g, 0, none⟩) st.N.length c) ∧ (∀ j, j < st.N.length → w.cell? ⟨g, j, none⟩ = some (.int .i64 (st.hi j : Int))) ∧ (∀ j, st.hi j ≤ 64) := by
  obtain ⟨vT, vN, vH, vL, h1, h2⟩ := h
  have hb : Blk w p 47 (rvC vT wrong last i o vN vH vL wh cd) := h1.1 _ (List.mem_cons_self ..)
  have hr : w.ownsRow B 3 1 vH st.H.length (st.H.flatMap encH) := h1.1 (itRow B 3 1 vH st.H.length (st.H.flatMap encH)) (by simp)
  obtain ⟨A, c, rfl, -, hA⟩ := own_form hr
  obtain ⟨g, rfl⟩ := hA (by rw [hk.len]; omega)
  refine ⟨g, c, ?_, fun j hj => ?_, fun j => ?_⟩
  · rw [← hk.len]
    exact hb.cell 6
  · rw [World.ownsRow.cellAt hr j (by rw [hk.len]; omega)]
    exact encH_get _ (by rw [hk.len]; exact hj)
  · unfold PS.hi
    rcases Nat.lt_or_ge j st.H.length with hj | hj
    · rw [List.getD_eq_getElem?_getD, List.getElem?_eq_getElem hj]
      exact hk.hs _ (List.getElem_mem hj)
    · rw [List.getD_eq_getElem?_getD, List.getElem?_eq_none hj]; exact Nat.zero_le _
theorem PostV.end_ {r : PR Nat} {e : Ending} (h : PostV T0 last wrong B p X oN st w r e w') : ∃ z : Int, e = .returned (.int .i64 z) := by
  cases r with
  | ok v st' => exact ⟨_, h.1⟩
  | no a c => exact h.1
set_option maxRecDepth 100000 in
set_option maxHeartbeats 4000000 in
/-- two -/
theorem rvTwo (k a b at_ : Nat) (hT : TkOk T0 last) (h : RvS T0 last wrong B p X oN st w) (hna : a < st.N.length) (hnb : b < st.N.length) :
    Calls Tryz.prog 34 #[.pointer (some ⟨p, 0, none⟩), .int .u8 (k : Int), .int .i64 (a : Int), .int .i64 (b : Int), .int .i64 (at_ : Int)] w (PostV T0 last wrong B p X oN st w (addP ⟨k, [], a, b, 0⟩ (1 + max (st.hi a) (st.hi b)) at_ st)) := by
  obtain ⟨i, hm, hk⟩ := h
  obtain ⟨g, c, c6, hc, h64⟩ := hm.high hk hna
  have k1 := h64 a
  have k2 := h64 b
  have hBs := Lib.hid hm.lt.2.1
  obtain ⟨c9, -⟩ := hm.cell_cd
  have cA0 := fun W (hb : Below w.heap.size w W) => rvMade ⟨k, [], a, b, 0⟩ (1 + max (st.hi a) (st.hi b)) at_ hT (show RvS T0 last wrong B p X oN st W from ⟨i, hm.below hb, hk⟩) (by omega)
  have e1 := hc _ hna
  have e2 := hc _ hnb
  obtain ⟨x1, hx1⟩ : ∃ k, k = st.hi a := ⟨_, rfl⟩
  obtain ⟨x2, hx2⟩ : ∃ k, k = st.hi b := ⟨_, rfl⟩
  obtain ⟨r, hr⟩ : ∃ r, r = addP ⟨k, [], a, b, 0⟩ (1 + max (st.hi a) (st.hi b)) at_ st := ⟨_, rfl⟩
  rw [← hr]
  have cA1 : Hid (∀ W, Below w.heap.size w W → Calls Tryz.prog 49 #[.pointer (some ⟨p, 0, none⟩), .agg #[.int .u8 (k : Int), .string ⟨#[]⟩, .int .i64 (a : Int), .int .i64 (b : Int), .int .i64 0], .int .i64 (((1 + max x1 x2 : Nat)) : Int), .int .i64 (at_ : Int)] W (PostV T0 last wrong B p X oN st w r)) := Lib.hid (fun W hb => by
    rw [hr, hx1, hx2]
    exact (cA0 W hb).mono (fun e w' h => PostV.pre h (hb.mono hBs.out)))
  rw [← hx1] at e1 k1
  rw [← hx2] at e2 k2
  obtain ⟨N0, hN0⟩ : ∃ k, k = st.N.length := ⟨_, rfl⟩
  rw [← hN0] at c6 hna hnb
  have hN9 : N0 ≤ 4096 := by rw [hN0]; exact hk.max
  have q9 : ∀ d os, (grow (redrawn w d) os).cell? ⟨p, 6, none⟩ = some (.slice (some ⟨g, 0, none⟩) N0 c) := cell_regrown c6
  have q1 : ∀ d os, (grow (redrawn w d) os).cell? ⟨g, a, none⟩ = some (.int .i64 (x1 : Int)) := cell_regrown e1
  have q2 : ∀ d os, (grow (redrawn w d) os).cell? ⟨g, b, none⟩ = some (.int .i64 (x2 : Int)) := cell_regrown e2
  have hnaI : (a : Int) < (N0 : Int) := by omega
  have hnbI : (b : Int) < (N0 : Int) := by omega
  have hq : ((1 + max x1 x2 : Nat) : Int) = 1 + max (x1 : Int) (x2 : Int) := by (rcases Nat.le_total x1 x2 with h | h; (· rw [Nat.max_eq_right h, Int.max_eq_right (by omega)]; omega); (· rw [Nat.max_eq_left h, Int.max_eq_left (by omega)]; omega))
  have hwx : IntKind.i64.wrap (1 + (max x1 x2 : Int)) = 1 + (max x1 x2 : Int) := by rw [← hq, IntKind.wrap_i64]; omega
  have cA := cA1.out
  rw [hq] at cA
  replace cA := Lib.hid cA
  replace hx1 := Lib.hid hx1
  replace hx2 := Lib.hid hx2
  replace hr := Lib.hid hr
  replace hN0 := Lib.hid hN0
  clear cA0 cA1 hm hk hc h64 k1 k2 e1 e2 c6 hq hna hnb
  go_enter Tryz.func34, Tryz.ntmps34
  go_upto_region 3 with fail
  refine wp_region_tail_below 22 (by kernel_rfl) (by kernel_rfl) ?_
  simp only [List.take_succ_cons, List.take_zero, List.drop_succ_cons, List.drop_zero]
  iterate 22 (quiet_step (fail))
  refine wpQuiet_nil ?_
  intro w2 hb2
  replace cA := Lib.hid (cA.out _ hb2)
  clear hb2 q9 q1 q2
  go_wp2_with fail
  refine cA.out.mono ?_
  rintro en w5 hp
  obtain ⟨z, rfl⟩ := hp.end_
  replace hp := Lib.hid hp
  go_wp2_with fail
  go_ret
  exact hp.out
set_option maxRecDepth 100000 in
/-- two, behind a fault -/
theorem rvTwo1 (hcd : cd ≠ 0) (z0 z1 z2 z3 : Int) (h : RvM T0 last wrong B p X o i N H U wh cd w) :
    Calls Tryz.prog 34 #[.pointer (some ⟨p, 0, none⟩), .int .u8 z0, .int .i64 z1, .int .i64 z2, .int .i64 z3] w (fun e w' => e = .returned (.int .i64 0) ∧ w' = w) := by
  obtain ⟨c9, -⟩ := h.cell_cd
  have hcI : ((cd : Int) == 0) = false := k_ne (b := 0) hcd
  have hcJ : ((cd : Int) != 0) = true := by rw [bne, hcI]; rfl
  clear h hcd
  go_enter Tryz.func34, Tryz.ntmps34
  go_wp2_with fail
  go_ret
  exact ⟨rfl, rfl⟩
end
end Go.Proofs.YtnaadajcehfmiaaGreatDoor
/- filigreeref11: Whole. -/
namespace Go.Proofs.YtnaadajcehfmiaaGreatDoor
open Go.RowKit Go.Sort Go.Maps

theorem wholeT_no {t : List Nat} (h : ¬ (t.length ≤ 2 ∧ 0 < t.length ∧ ¬ (t.length = 2 ∧ t.head? = some 48))) : optI (wholeT t) = -1 := by
  unfold wholeT
  rw [if_neg (fun hh => h ⟨hh.1, hh.2.1, hh.2.2.2.1⟩)]; rfl
theorem wholeT_bad {t : List Nat} (h : t.all digB = false) : optI (wholeT t) = -1 := by
  unfold wholeT
  rw [if_neg (fun hh => by rw [h] at hh; exact Bool.false_ne_true hh.2.2.1)]; rfl
theorem wholeT_fin {t : List Nat} (h : t.length ≤ 2 ∧ 0 < t.length ∧ ¬ (t.length = 2 ∧ t.head? = some 48)) (hd : t.all digB = true) : optI (wholeT t) = if decL t ≤ 64 then (decL t : Int) else -1 := by
  unfold wholeT
  by_cases h64 : decL t ≤ 64
  · rw [if_pos ⟨h.1, h.2.1, hd, h.2.2, h64⟩, if_pos h64]; rfl
  · rw [if_neg (fun hh => h64 hh.2.2.2.2), if_neg h64]; rfl
theorem decL_snoc (l : List Nat) (b : Nat) : decL (l ++ [b]) = 10 * decL l + (b - 48) := by
  unfold decL; rw [List.foldl_append]; rfl
set_option maxRecDepth 100000 in
set_option maxHeartbeats 4000000 in
theorem rvWhole (t : List Nat) (ht : Byt t) (hl : t.length ≤ 16384) (w : World) : Calls Tryz.prog 80 #[.string (mkS t)] w (fun e w' => e = .returned (.int .i64 (optI (wholeT t))) ∧ w' = w) := by
  obtain ⟨R, hR⟩ : ∃ r, r = optI (wholeT t) := ⟨_, rfl⟩
  rw [← hR]
  by_cases h0 : t = []
  case pos =>
    have e : R = -1 := by rw [hR, h0]; rfl
    subst e
    rw [h0, show mkS [] = (⟨#[]⟩ : ByteArray) from rfl]
    clear hR ht hl h0
    go_enter Tryz.func80, Tryz.ntmps80
    go_wp2_with fail
    go_ret
    exact ⟨rfl, rfl⟩
  have hlen : 0 < t.length := List.length_pos_iff.2 h0
  obtain ⟨tk, htk⟩ : ∃ k, k = mkS t := ⟨_, rfl⟩
  have hsz : tk.size = t.length := by rw [htk, mkS_size]
  have hsl : sl tk = t := by rw [htk]; exact sl_mk _ ht
  have e0 : ¬ tk.toList = [] := fun e => by
    have h1 : tk.data.toList = [] := by rw [← ByteArray.toList_eq]; exact e
    have h2 : tk.size = 0 := by
      have := congrArg List.length h1
      simpa using this
    omega
  have e00 : tk.toList.isEmpty = false := by simpa using e0
  rw [← htk]
  replace htk := Lib.hid htk
  skip
  have hbt := Lib.hid (fun (j : Nat) (hj : j < tk.size) => (show t[j]? = some (tk[j]'hj).toNat from by
    have h1 := sl_get tk j hj
    rw [hsl] at h1
    exact h1))
  by_cases h2 : t.length ≤ 2
  case neg =>
    have e : R = -1 := by rw [hR]; exact wholeT_no (fun h => h2 h.1)
    subst e
    have hI : (2 : Int) < (tk.size : Int) := by omega
    clear hR ht hl h0 hlen hsz hsl hbt h2
    go_enter Tryz.func80, Tryz.ntmps80
    go_wp2_with fail
    go_ret
    exact ⟨rfl, rfl⟩
  have hI2 : ¬ (2 : Int) < (tk.size : Int) := by omega
  have hz0 : 0 < tk.size := by omega
  obtain ⟨c, hc⟩ : ∃ c, c = (tk[0]'hz0).toNat := ⟨_, rfl⟩
  have hcx : (((tk[0]'hz0).toNat : Nat) : Int) = (c : Int) := by rw [hc]
  have hz0I : (0 : Int) < (tk.size : Int) := by omega
  have hhd : t.head? = some c := by
    rw [hc, ← hbt.out 0 hz0, List.head?_eq_getElem?]
  by_cases hno : t.length = 2 ∧ t.head? = some 48
  case pos =>
    have e : R = -1 := by rw [hR]; exact wholeT_no (fun h => h.2.2 hno)
    subst e
    have hc48 : c = 48 := by rw [hhd] at hno; exact Option.some.inj hno.2
    have hI48 : ((c : Int) == 48) = true := k_eq hc48
    have hI1 : (1 : Int) < (tk.size : Int) := by omega
    replace hc := Lib.hid hc
    clear hR ht hl h0 hlen hsz hsl hbt h2 hno hhd hc48
    go_enter Tryz.func80, Tryz.ntmps80
    go_wp2_with fail
    go_ret
    exact ⟨rfl, rfl⟩
  case neg =>
    have hok : Hid (t.length ≤ 2 ∧ 0 < t.length ∧ ¬ (t.length = 2 ∧ t.head? = some 48)) := Lib.hid ⟨h2, hlen, hno⟩
    have hor : ((c : Int) == 48) = false ∨ ((c : Int) == 48) = true ∧ ¬ (1 : Int) < (tk.size : Int) := by
      by_cases hc48 : c = 48
      · refine .inr ⟨k_eq hc48, ?_⟩
        have : ¬ t.length = 2 := fun h => hno ⟨h, by rw [hhd, hc48]⟩
        omega
      · exact .inl (k_ne (b := 48) hc48)
    obtain ⟨n, hn⟩ : ∃ n, n = tk.size := ⟨_, rfl⟩
    have hn2 : n ≤ 2 := by omega
    have hnt : Hid (n = t.length) := Lib.hid (by omega)
    have hnz : Hid (tk.size = n) := Lib.hid hn.symm
    have hszn : (tk.size : Int) = (n : Int) := by rw [hn]
    replace hc := Lib.hid hc
    replace hn := Lib.hid hn
    replace hsl := Lib.hid hsl
    replace hR := Lib.hid hR
    replace hsz := Lib.hid hsz
    clear ht hl h0 hlen h2 hno hhd
    rcases hor with hI48 | ⟨hI48, hI1⟩
    all_goals
      go_enter Tryz.func80, Tryz.ntmps80
      go_upto_region 3 with fail
      clear hI48 hcx hI2 e0 e00 hz0I
      go_wp2_with fail
      go_loopg [3, 4] n (fun kx s3 s4 wr => ∃ j m : Nat, s3 = .int .i64 (m : Int) ∧ s4 = .int .i64 (j : Int) ∧ w = wr ∧ j + kx = n ∧ Hid (decL (t.take j) = m) ∧ Hid ((t.take j).all digB = true) ∧ Hid (m + 1 ≤ 10 ^ j))
      case atStart => exact ⟨0, 0, rfl, rfl, rfl, by omega, Lib.hid rfl, Lib.hid rfl, Lib.hid (by decide)⟩
      case round =>
        obtain ⟨j, m, rfl, rfl, rfl, hjk, hdm, hda, hm10⟩ := hrel
        have hm99 : Hid (m ≤ 100) := Lib.hid (by
          have h1 := hm10.out
          have h2 : 10 ^ j ≤ 10 ^ 2 := Nat.pow_le_pow_right (by decide) (by omega)
          omega)
        by_cases hj : j < n
        case neg =>
          have hjI : ¬ (j : Int) < (n : Int) := by omega
          have htj : t.take j = t := List.take_of_length_le (by have := hnt.out; omega)
          have hfin := wholeT_fin hok.out (by rw [← htj]; exact hda.out)
          rw [← hR.out, ← htj, hdm.out] at hfin
          have hm9 := hm99.out
          replace hjk := Lib.hid hjk
          by_cases h64 : m ≤ 64
          · rw [if_pos h64] at hfin
            subst hfin
            have hmI : ¬ (64 : Int) < (m : Int) := by omega
            clear htj hj h64
            go_wp2_with fail
            go_ret
            exact ⟨rfl, rfl⟩
          · rw [if_neg h64] at hfin
            subst hfin
            have hmI : (64 : Int) < (m : Int) := by omega
            clear htj hj h64
            go_wp2_with fail
            go_ret
            exact ⟨rfl, rfl⟩
        case pos =>
          have hjI : (j : Int) < (n : Int) := by omega
          have hjz : j < tk.size := by have := hnz.out; omega
          have hjt : j < t.length := by have := hnt.out; omega
          obtain ⟨d, hd⟩ : ∃ c, c = (tk[j]'hjz).toNat := ⟨_, rfl⟩
          have hdx : (((tk[j]'hjz).toNat : Nat) : Int) = (d : Int) := by rw [hd]
          have htd : t[j]? = some d := by rw [hd]; exact hbt.out j hjz
          have htake : t.take (j + 1) = t.take j ++ [d] := by rw [List.take_add_one, htd]; rfl
          replace hd := Lib.hid hd
          replace hm10 := hm10.out
          by_cases hdg : digB d = true
          case neg =>
            have hdg2 : digB d = false := by simpa using hdg
            have e : R = -1 := by
              rw [hR.out]
              refine wholeT_bad ?_
              rw [List.all_eq_false]
              exact ⟨d, List.mem_of_getElem? htd, hdg⟩
            subst e
            have hdgH := Lib.hid hdg2
            clear hdg hdg2 htake htd
            replace hm10 := Lib.hid hm10
            replace hjk := Lib.hid hjk
            go_wp2_with fail
            refine (rdigit_any _ _).mono ?_
            rintro en wq ⟨rfl, rfl⟩
            rw [hdgH.out]
            go_wp2_with fail
            go_ret
            exact ⟨rfl, rfl⟩
          case pos =>
            have hdr : 48 ≤ d ∧ d ≤ 57 := by
              unfold digB at hdg
              exact of_decide_eq_true hdg
            have hsub : IntKind.u8.wrap ((d : Int) - 48) = ((d - 48 : Nat) : Int) := by rw [IntKind.wrap_u8]; omega
            have hcv : IntKind.i64.wrap (((d - 48 : Nat)) : Int) = ((d - 48 : Nat) : Int) := by rw [IntKind.wrap_i64]; omega
            obtain ⟨x, hx⟩ : ∃ x, x = d - 48 := ⟨_, rfl⟩
            rw [← hx] at hsub hcv
            have hx9 : x ≤ 9 := by omega
            have hm9 := hm99.out
            have hmul : IntKind.i64.wrap (10 * (m : Int)) = 10 * (m : Int) := by rw [IntKind.wrap_i64]; omega
            have hadd : IntKind.i64.wrap (10 * (m : Int) + (x : Int)) = 10 * (m : Int) + (x : Int) := by rw [IntKind.wrap_i64]; omega
            have hw1 : wrap64 ((j : Int) + 1) = (j : Int) + 1 := w64_in _ (by omega)
            have hdm2 : Hid (decL (t.take (j + 1)) = 10 * m + x) := Lib.hid (by rw [htake, decL_snoc, hdm.out, hx])
            have hda2 : Hid ((t.take (j + 1)).all digB = true) := Lib.hid (by rw [htake, List.all_append, hda.out]; simp [hdg])
            have hm2 : Hid (10 * m + x + 1 ≤ 10 ^ (j + 1)) := Lib.hid (by rw [Nat.pow_succ]; omega)
            have hdgH := Lib.hid hdg
            replace hx := Lib.hid hx
            replace hm10 := Lib.hid hm10
            replace hjk := Lib.hid hjk
            replace hm9 := Lib.hid hm9
            replace hx9 := Lib.hid hx9
            clear hjt
            clear hdg htake htd hdr
            go_wp2_with fail
            refine (rdigit_any _ _).mono ?_
            rintro en wq ⟨rfl, rfl⟩
            rw [hdgH.out]
            go_upto_region 9 with fail
            go_upto_region 6 with fail
            clear hdx hmul hadd hsub hcv
            replace hjI := Lib.hid hjI
            replace hj := Lib.hid hj
            replace hn2 := Lib.hid hn2
            go_wp2_with fail
            go_roundg (n - (j + 1))
            case measure => have := hjk.out; omega
            case rel => exact ⟨j + 1, 10 * m + x, rfl, (by first | rfl | (rw [hw1]; rfl)), rfl, (by have := hjk.out; have := hj.out; omega), hdm2, hda2, hm2⟩
end Go.Proofs.YtnaadajcehfmiaaGreatDoor
