/- Package filigreeref21: Digits. · filigreelaw21.AngleDigits: the walk. -/
import Derived.Test.YtciafmnideihjaaSpellL
import Derived.Test.YtciafmnideihjaaFromD
import Derived.Test.YtciafmnideihjaaApp
import Derived.Deep.RegionHeld3
namespace Go.Proofs.Ytciafmnideihjaa
open Go.RowKit Go.Sort

def RetRd (k : IntKind) (T : TypeId) (l : List Nat) (w : World) (e : Ending) (w' : World) : Prop := ∃ v, e = .returned v ∧ Rd k T w' v l ∧ Below w.heap.size w w'

set_option maxRecDepth 100000 in
set_option maxHeartbeats 2000000 in
/-- filigreeref21.Digits -/
theorem rdigs_any (x y dn nn : Nat) (w : World) (k1 : x < y) (l : y ≤ 2147483647) (hgc : Nat.gcd x y = 1) (hd : 2 ≤ dn) (hd2 : dn ≤ 64) (hns : nn ≤ 1024) :
    Calls Try.prog 47 #[.agg #[.int .u64 (x : Int), .int .u64 (y : Int)], .int .i64 (dn : Int), .int .i64 (nn : Int)] w (RetRd .u8 5 (digL x y dn nn) w) := by
  obtain ⟨i0, hi, hz0, hz1, hz2⟩ := info_parts info_u8
  have hdI : (2 : Int) ≤ (dn : Int) := by omega
  have hdI2 : (dn : Int) ≤ 64 := by omega
  have y0 : 0 < y := by omega
  have wd : IntKind.u64.wrap (dn : Int) = (dn : Int) := by rw [IntKind.wrap_u64]; omega
  have hstart : Hid ((x, y) = rd (turnX x y dn 0) y) := Lib.hid (by
    rw [turnX_eq, Nat.pow_zero, Nat.mul_one, Nat.mod_eq_of_lt k1, rd_self hgc])
  have hBW : Below w.heap.size w (w.alloc (.cells #[.int .u64 (x : Int), .int .u64 (y : Int)] 34)) := (Below.refl _ w).alloc (Nat.le_refl _) _
  have kp := Blk.new w 34 #[.int .u64 (x : Int), .int .u64 (y : Int)]
  obtain ⟨gp, hgp⟩ : ∃ g, g = w.heap.size := ⟨_, rfl⟩
  rw [← hgp] at kp
  have hgs : w.heap.size ≤ gp := by omega
  replace kp := Lib.hid kp
  replace hBW := Lib.hid hBW
  replace hgp := Lib.hid hgp
  clear hgc
  go_enter Try.func47, Try.ntmps47
  go_wp2_with fail
  rw [← hgp.out]
  go_loopw [7, 8] (fun v kk wr => ∃ (k N D : Nat), kk = .int .i64 (k : Int) ∧ k ≤ nn ∧ (N, D) = rd (turnX x y dn k) y ∧ wr.ownsRow (gp + 1) 5 1 v k (ivs .u8 (digL x y dn k)) ∧ Blk wr gp 34 #[.int .u64 (N : Int), .int .u64 (D : Int)] ∧ Below w.heap.size w wr) (fun _ kk _ => nn - (intOf kk).toNat)
  case atStart => exact ⟨0, x, y, rfl, Nat.zero_le _, hstart.out, World.ownsRow_nil _ _ _ _, kp.out, hBW.out⟩
  case round =>
    obtain ⟨k, N, D, rfl, hk, hND, hown, hp, hB⟩ := hrel
    replace hown := Lib.hid hown
    replace hB := Lib.hid hB
    by_cases h0 : k < nn
    · have h0I : (k : Int) < (nn : Int) := by omega
      have hf := rd_facts y0 (show turnX x y dn k < y from Nat.mod_lt _ y0)
      rw [← hND] at hf
      obtain ⟨f1, f2, f3⟩ := hf
      simp only at f2 f3
      have c0 : wr.cell? ⟨gp, 0, none⟩ = some (.int .u64 (N : Int)) := hp.cell 0
      have c1 : wr.cell? ⟨gp, 1, none⟩ = some (.int .u64 (D : Int)) := hp.cell 1
      obtain ⟨P, hP⟩ : ∃ P, P = N * dn := ⟨_, rfl⟩
      have hPs : P ≤ 2147483647 * 64 := by rw [hP]; exact Nat.mul_le_mul (by omega) (by omega)
      have hPi : (N : Int) * (dn : Int) = (P : Int) := by rw [hP]; push_cast; rfl
      obtain ⟨G, hG⟩ : ∃ G, G = P / D := ⟨_, rfl⟩
      have hGi : (P : Int) / (D : Int) = (G : Int) := by rw [hG]; rfl
      have hGd : G = digN x y dn k := by rw [hG, hP]; exact digN_rd y0 hND
      have hGs : G < 64 := by rw [hGd]; have := digN_lt (x := x) (i := k) y0 (show 0 < dn by omega); omega
      have hGm : (G : Int) % 256 = (G : Int) := by omega
      have hD0 : ¬ (D : Int) = 0 := by omega
      have hDp : (0 : Int) < (D : Int) := by omega
      obtain ⟨T, hT⟩ : ∃ T, T = turnX N D dn 1 := ⟨_, rfl⟩
      obtain ⟨N2, hN2⟩ : ∃ a, a = T / Nat.gcd T D := ⟨_, rfl⟩
      obtain ⟨D2, hD2⟩ : ∃ a, a = D / Nat.gcd T D := ⟨_, rfl⟩
      have hTe : Hid (T = N * dn % D) := Lib.hid (by rw [hT, turnX_eq, Nat.pow_one])
      have hnext : Hid ((N2, D2) = rd (turnX x y dn (k + 1)) y) := Lib.hid (by
        rw [← turn_turn y0 hND, ← hT, hN2, hD2]; rfl)
      have hdg : Hid (ivs .u8 (digL x y dn (k + 1)) = ivs .u8 (digL x y dn k) ++ [.int .u8 (G : Int)]) := Lib.hid (by
        rw [digL_succ, ivs_append, hGd]; rfl)
      have b1 : Hid (N ≤ 2147483647) := Lib.hid (by omega)
      have b2 : Hid (D ≤ 2147483647) := Lib.hid (by omega)
      have b3 : Hid (0 < D) := Lib.hid (by omega)
      replace hN2 := Lib.hid hN2
      replace hD2 := Lib.hid hD2
      replace hp := Lib.hid hp
      have wP : IntKind.u64.wrap (P : Int) = (P : Int) := by rw [IntKind.wrap_u64]; omega
      obtain ⟨wo, rfl⟩ : ∃ wo : World, wo = wr := ⟨_, rfl⟩
      clear hND f1 f2 f3 hP hG hGd hT
      go_wp2_with (at_builtin; refine wpList_append_own _ rfl _ _ 81 rfl (gp + 1) 5 i0 (.int .u8 0) 1 1 Try.underlying81 hi hz0 hz1 hz2 rfl (by decide) _ _ _ rfl (hown.out.alloc _) ⟨wo.heap.size, 0, none⟩ 1 1 [.int .u8 (G : Int)] rfl rfl ?d1 ?d2 ?d3 ?d4 ?d5 ?_)
      case d1 =>
        intro j u hj
        match j, hj with
        | 0, hj => simp at hj; subst hj; simp [Addr.add]
      case d2 => intro u hu; simp at hu; rw [hu]; rfl
      case d3 => unfold maxLen; omega
      case d4 => omega
      case d5 => have := hp.out.lt; simp; omega
      intro v' w3 hown' hgrow _
      have hB3 : Below w.heap.size w w3 := (hB.out.alloc hB.out.size _).grown hgrow (by have := hB.out.size; simp; omega) (fun k hk => by have := (hown.out.lt k hk).1; omega)
      have hp3 : Blk w3 gp 34 #[.int .u64 (N : Int), .int .u64 (D : Int)] := Blk.grown (hp.out.alloc _) hgrow (fun e => by have := (hown.out.lt _ e.symm).1; omega)
      rw [← hdg.out] at hown'
      have e0 : w3.cell? ⟨gp, 0, none⟩ = some (.int .u64 (N : Int)) := hp3.cell 0
      have e1 : w3.cell? ⟨gp, 1, none⟩ = some (.int .u64 (D : Int)) := hp3.cell 1
      replace hown' := Lib.hid hown'
      replace hp3 := Lib.hid hp3
      replace hB3 := Lib.hid hB3
      clear hgrow hown hp hB c0 c1 hdg
      go_wp2_with fail
      refine (rturn_any N D dn T N2 D2 _ b1.out b3.out b2.out (by omega) hTe hN2 hD2).mono ?_
      rintro e w4 ⟨rfl, hb⟩
      have hown4 := own_below hown'.out hb
      have hp4 := Blk.below hp3.out hb
      have hB4 := hB3.out.trans (hb.mono hB3.out.size)
      have f0 := hp4.frozen 0
      have f1 := hp4.frozen 1
      have e0 : w4.cell? ⟨gp, 0, none⟩ = some (.int .u64 (N : Int)) := hp4.cell 0
      have e1 : w4.cell? ⟨gp, 1, none⟩ = some (.int .u64 (D : Int)) := hp4.cell 1
      have hp5 : Blk ((w4.setCell ⟨gp, 0, none⟩ (.int .u64 (N2 : Int))).setCell ⟨gp, 1, none⟩ (.int .u64 (D2 : Int))) gp 34 #[.int .u64 (N2 : Int), .int .u64 (D2 : Int)] := (hp4.set_ 0 _).set_ 1 _
      have hown5 : ((w4.setCell ⟨gp, 0, none⟩ (.int .u64 (N2 : Int))).setCell ⟨gp, 1, none⟩ (.int .u64 (D2 : Int))).ownsRow (gp + 1) 5 1 v' (k + 1) (ivs .u8 (digL x y dn (k + 1))) := ownsRow_setCell_below (ownsRow_setCell_below hown4 (by simp) _) (by simp) _
      have hB5 : Below w.heap.size w ((w4.setCell ⟨gp, 0, none⟩ (.int .u64 (N2 : Int))).setCell ⟨gp, 1, none⟩ (.int .u64 (D2 : Int))) := (hB4.setCell (p := ⟨gp, 0, none⟩) hgs _).setCell (p := ⟨gp, 1, none⟩) hgs _
      replace hown5 := Lib.hid hown5
      replace hp5 := Lib.hid hp5
      replace hB5 := Lib.hid hB5
      clear hb hown' hp3 hB3 hown4 hp4 hB4
      go_wp2_with fail
      go_roundw
      case rel => exact ⟨k + 1, N2, D2, by go_num, by omega, hnext.out, hown5.out, hp5.out, hB5.out⟩
      case measure => simp [intOf]; omega
    · obtain rfl : k = nn := by omega
      have h0I : ¬ (k : Int) < (k : Int) := by omega
      clear hND hp
      go_wp2_with fail
      go_ret
      exact ⟨_, rfl, own_rdn hown.out, hB.out⟩
end Go.Proofs.Ytciafmnideihjaa

namespace Go.Proofs.Ytciafmnideihjaa
open Go.RowKit Go.Sort

/-- angle.Of and filigreeref21.FromDigits, of the same digits. -/
theorem of_pair (d : Int) (l1 l2 : List Nat) (hs1 : ∀ x, x ∈ l1 → x < 256) (hs2 : ∀ x, x ∈ l2 → x < 256) (hlen : l1.length + l2.length ≤ 1125899906842624) : ∃ (s1 s2 : ByteArray) (eo : Int),
    (∀ (W : World) (v1 v2 : Value), Rd .u8 5 W v1 l1 → Rd .u8 5 W v2 l2 → Calls Try.prog 48 #[.int .i64 d, v1, v2] W (RetVal (.tuple #[.agg #[.bool false, .string s1, .string s2], .int .i64 eo]) W)) ∧
    ((roundB d = false ∧ s1 = ⟨#[]⟩ ∧ s2 = ⟨#[]⟩ ∧ eo = 2) ∨ (roundB d = true ∧ ∃ (N D : Nat) (f : Int),
      (∀ (W : World) (T1 T2 : TypeId) (v1 v2 : Value), Rd .u8 T1 W v1 l1 → Rd .u8 T2 W v2 l2 → Calls Try.prog 49 #[.int .i64 d, v1, v2] W (RetVal (.tuple #[.agg #[.int .u64 (N : Int), .int .u64 (D : Int)], .int .i64 f]) W)) ∧
      ∀ W : World, Calls Try.prog 27 #[.agg #[.bool false, .string s1, .string s2], .int .i64 eo, .agg #[.int .u64 (N : Int), .int .u64 (D : Int)], .int .i64 f] W (RetVal (.bool true) W))) := by
  cases hr : roundB d
  · exact ⟨⟨#[]⟩, ⟨#[]⟩, 2, fun W v1 v2 h1 h2 => of_err d v1 v2 l1 l2 2 W h1 h2 hlen (.inl ⟨hr, rfl⟩), .inl ⟨rfl, rfl, rfl, rfl⟩⟩
  have hd := roundB_iff.1 hr
  obtain ⟨dn, rfl⟩ := Int.eq_ofNat_of_zero_le (show 0 ≤ d by omega)
  have hd2 : 2 ≤ dn := by omega
  have hd64 : dn ≤ 64 := by omega
  by_cases h0 : l2.length = 0
  · exact ⟨⟨#[]⟩, ⟨#[]⟩, 2, fun W v1 v2 h1 h2 => of_err dn v1 v2 l1 l2 2 W h1 h2 hlen (.inr (.inl ⟨hr, h0, rfl⟩)), .inr ⟨rfl, 0, 0, 2,
      fun W T1 T2 v1 v2 h1 h2 => fromD_err dn v1 v2 l1 l2 2 W hd2 hd64 h1 h2 hs1 hs2 hlen (.inl ⟨h0, rfl⟩), fun W => is_no 0 0 2 W (by decide)⟩⟩
  by_cases h1k : 1024 < l1.length + l2.length
  · exact ⟨⟨#[]⟩, ⟨#[]⟩, 4, fun W v1 v2 h1 h2 => of_err dn v1 v2 l1 l2 4 W h1 h2 hlen (.inr (.inr ⟨hr, h0, h1k, rfl⟩)), .inr ⟨rfl, 0, 0, 4,
      fun W T1 T2 v1 v2 h1 h2 => fromD_err dn v1 v2 l1 l2 4 W hd2 hd64 h1 h2 hs1 hs2 hlen (.inr (.inl ⟨h0, h1k, rfl⟩)), fun W => is_no 0 0 4 W (by decide)⟩⟩
  have hl : l1.length + l2.length ≤ 1024 := by omega
  by_cases hok : (∀ x, x ∈ l1 → x < dn) ∧ (∀ x, x ∈ l2 → x < dn)
  · obtain ⟨N, hN⟩ : ∃ N, N = ((numL dn l1 * (dn ^ l2.length - 1) + numL dn l2) % (dn ^ l1.length * (dn ^ l2.length - 1))) / Nat.gcd ((numL dn l1 * (dn ^ l2.length - 1) + numL dn l2) % (dn ^ l1.length * (dn ^ l2.length - 1))) (dn ^ l1.length * (dn ^ l2.length - 1)) := ⟨_, rfl⟩
    obtain ⟨D, hD⟩ : ∃ D, D = (dn ^ l1.length * (dn ^ l2.length - 1)) / Nat.gcd ((numL dn l1 * (dn ^ l2.length - 1) + numL dn l2) % (dn ^ l1.length * (dn ^ l2.length - 1))) (dn ^ l1.length * (dn ^ l2.length - 1)) := ⟨_, rfl⟩
    have lND : N < D := by
      have pE : 0 < dn ^ l1.length * (dn ^ l2.length - 1) := by
        have h2 := Nat.pow_le_pow_right (n := dn) (by omega) (show 1 ≤ l2.length by omega)
        rw [Nat.pow_one] at h2
        exact Nat.mul_pos (Nat.pow_pos (by omega)) (by omega)
      rw [hN, hD]
      exact Nat.div_lt_div_of_lt_of_dvd (Nat.gcd_dvd_right _ _) (Nat.mod_lt _ pE)
    have hof : ∀ (W : World) (v1 v2 : Value), Rd .u8 5 W v1 l1 → Rd .u8 5 W v2 l2 → Calls Try.prog 48 #[.int .i64 (dn : Int), v1, v2] W (RetVal (toldV N D) W) := fun W v1 v2 h1 h2 => of_full dn v1 v2 l1 l2 N D W hd2 hd64 h1 h2 hok.1 hok.2 (by omega) hl hN hD
    have hfd : ∀ (W : World) (T1 T2 : TypeId) (v1 v2 : Value), Rd .u8 T1 W v1 l1 → Rd .u8 T2 W v2 l2 → Calls Try.prog 49 #[.int .i64 (dn : Int), v1, v2] W (RetVal (raddV N D) W) := fun W T1 T2 v1 v2 h1 h2 => fromD_any dn v1 v2 l1 l2 N D W hd2 hd64 h1 h2 hok.1 hok.2 (by omega) hl hN hD
    by_cases hle : D ≤ 2147483647
    · refine ⟨natS N, natS D, 0, fun W v1 v2 h1 h2 => ?_, .inr ⟨rfl, N, D, 0, fun W T1 T2 v1 v2 h1 h2 => ?_, fun W => is_yes N D W (by omega) (by omega)⟩⟩
      · have h := hof W v1 v2 h1 h2
        rwa [show toldV N D = .tuple #[.agg #[.bool false, .string (natS N), .string (natS D)], .int .i64 0] by simp [toldV, hle, ratV]] at h
      · have h := hfd W T1 T2 v1 v2 h1 h2
        rwa [show raddV N D = .tuple #[.agg #[.int .u64 (N : Int), .int .u64 (D : Int)], .int .i64 0] by simp [raddV, hle]] at h
    · refine ⟨⟨#[]⟩, ⟨#[]⟩, 210, fun W v1 v2 h1 h2 => ?_, .inr ⟨rfl, 0, 0, 210, fun W T1 T2 v1 v2 h1 h2 => ?_, fun W => is_no 0 0 210 W (by decide)⟩⟩
      · have h := hof W v1 v2 h1 h2
        rwa [show toldV N D = .tuple #[.agg #[.bool false, .string ⟨#[]⟩, .string ⟨#[]⟩], .int .i64 210] by simp [toldV, hle, rat0]] at h
      · have h := hfd W T1 T2 v1 v2 h1 h2
        rwa [show raddV N D = .tuple #[.agg #[.int .u64 ((0 : Nat) : Int), .int .u64 ((0 : Nat) : Int)], .int .i64 210] by simp [raddV, hle]] at h
  · have hb : okD dn l1 = false ∨ okD dn l2 = false := by
      cases h1 : okD dn l1
      · exact .inl rfl
      · cases h2 : okD dn l2
        · exact .inr rfl
        · exact absurd ⟨okD_iff.1 h1, okD_iff.1 h2⟩ hok
    exact ⟨⟨#[]⟩, ⟨#[]⟩, 212, fun W v1 v2 h1 h2 => of_digit dn v1 v2 l1 l2 W h1 h2 hd2 hd64 (by omega) hl hs1 hs2 hok, .inr ⟨rfl, 0, 0, 212,
      fun W T1 T2 v1 v2 h1 h2 => fromD_err dn v1 v2 l1 l2 212 W hd2 hd64 h1 h2 hs1 hs2 hlen (.inr (.inr ⟨h0, hl, hb, rfl⟩)), fun W => is_no 0 0 212 W (by decide)⟩⟩

set_option maxRecDepth 100000 in
set_option maxHeartbeats 4000000 in
theorem angleDigits_any (ng : Bool) (nu de : ByteArray) (d n : Int) {T1 T2 : TypeId} (A1 : Option Addr) (c1 L1 : Nat) (l1 : List Nat) (A2 : Option Addr) (c2 L2 : Nat) (l2 : List Nat) (w : World) (z1 : nu.size ≤ 9223372036854775807) (z2 : de.size ≤ 9223372036854775807)
    (h1 : Rd .u8 T1 w (.slice A1 L1 c1) l1) (h2 : Rd .u8 T2 w (.slice A2 L2 c2) l2) (hs1 : ∀ x, x ∈ l1 → x < 256) (hs2 : ∀ x, x ∈ l2 → x < 256) (r1 : l1.length ≤ 140737488351232) (r2 : l2.length ≤ 140737488351232) :
    Calls Try.prog 12 #[.agg #[.bool ng, .string nu, .string de], .int .i64 d, .int .i64 n, .slice A1 L1 c1, .slice A2 L2 c2] w (RetVal (.bool true) w) := by
  have hBW : Below w.heap.size w (w.alloc (.cells #[.bool ng, .string nu, .string de] 24)) := (Below.refl _ w).alloc (Nat.le_refl _) _
  have ka := Blk.new w 24 #[.bool ng, .string nu, .string de]
  obtain ⟨E, hE⟩ : ∃ E, E = digsE ng nu de d n := ⟨_, rfl⟩
  obtain ⟨R, hR⟩ : ∃ R, R = digsR ng nu de d n := ⟨_, rfl⟩
  have kd : ∀ W, Calls Try.prog 45 #[.agg #[.bool ng, .string nu, .string de], .int .i64 d, .int .i64 n] W (RetRow 5 1 E R.length (ivs .u8 R) W) := fun W => by
    rw [hE, hR]; exact digits_any ng nu de d n W z1 z2
  obtain ⟨x, y, hsv, hq⟩ := smallV_form ng nu de
  obtain ⟨ok, hok0⟩ : ∃ b, b = okA ng nu de := ⟨_, rfl⟩
  rw [← hok0] at hsv hq
  replace hok0 := Lib.hid hok0
  replace kd := Lib.hid kd
  replace hE := Lib.hid hE
  replace hR := Lib.hid hR
  replace hsv := Lib.hid hsv
  replace hq := Lib.hid hq
  replace ka := Lib.hid ka
  replace hBW := Lib.hid hBW
  replace h1 := Lib.hid h1
  replace h2 := Lib.hid h2
  replace hs1 := Lib.hid hs1
  replace hs2 := Lib.hid hs2
  go_enter Try.func12, Try.ntmps12
  go_wp2_with fail
  refine (kd.out _).mono ?_
  rintro e v1 ⟨lv, rfl, hl, hb⟩
  replace ka := Lib.hid (Blk.below ka.out hb)
  replace hl := Lib.hid (own_le hl hBW.out.size)
  replace hBW := Lib.hid (hBW.out.trans (hb.mono hBW.out.size))
  clear hb
  have c0 : v1.cell? ⟨w.heap.size, 0, none⟩ = some (.bool ng) := ka.out.cell 0
  have c1 : v1.cell? ⟨w.heap.size, 1, none⟩ = some (.string nu) := ka.out.cell 1
  have c2 : v1.cell? ⟨w.heap.size, 2, none⟩ = some (.string de) := ka.out.cell 2
  go_wp2_with fail
  refine (rof_any ng nu de _ z1 z2).mono ?_
  rintro e v2 ⟨rfl, hb⟩
  rw [hsv.out]
  replace hl := (own_below hl.out hb).alloc (.cells #[.int .u64 (x : Int), .int .u64 (y : Int)] 34)
  have kx := Blk.new v2 34 #[.int .u64 (x : Int), .int .u64 (y : Int)]
  replace hBW := hBW.out.trans (hb.mono hBW.out.size)
  replace hBW := hBW.alloc hBW.size (.cells #[.int .u64 (x : Int), .int .u64 (y : Int)] 34)
  clear hb ka c0 c1 c2
  go_upto_block 0 with fail
  generalize hxx : v2.alloc (.cells #[.int .u64 (x : Int), .int .u64 (y : Int)] 34) = v3 at hl kx hBW ⊢
  generalize hgg : v2.heap.size = gx at *
  clear hxx hgg
  replace hl := Lib.hid hl
  replace kx := Lib.hid kx
  replace hBW := Lib.hid hBW
  obtain ⟨wo, hwo⟩ : ∃ wo : World, wo = v3 := ⟨_, rfl⟩
  replace hwo := Lib.hid hwo
  go_cut [] from 33 to 79 (fun wx => Below w.heap.size w wx)
  case first =>
    cases ok
    · have hok := hok0.out.symm
      have hEv : E = 210 := by rw [hE.out]; simp [digsE, hok]
      have hRv : R = [] := by rw [hR.out]; simp [digsR, hok]
      subst hEv hRv
      have hlf := own_formsB hl.out
      clear hE hR hl
      rcases hlf with ⟨rfl, -⟩ | ⟨gl, capl, rfl⟩
      all_goals
        go_wp2_with fail
        go_meet
        case rel => exact hBW.out
    have hok := hok0.out.symm
    obtain ⟨ex, ey, k1, l⟩ := hq.out rfl
    cases hr : roundB d
    · have hEv : E = 2 := by rw [hE.out]; simp [digsE, hok, hr]
      have hRv : R = [] := by rw [hR.out]; simp [digsR, hok, hr]
      subst hEv hRv
      have hlf := own_formsB hl.out
      replace hr := Lib.hid hr
      clear hE hR hl hok ex ey
      rcases hlf with ⟨rfl, -⟩ | ⟨gl, capl, rfl⟩
      all_goals
        go_wp2_with fail
        refine (rround_any d _).mono ?_
        rintro e v4 ⟨rfl, rfl⟩
        rw [hr.out]
        go_wp2_with fail
        go_meet
        case rel => exact hBW.out
    by_cases hn0 : n < 0
    · have hEv : E = 2 := by
        have : ¬ 0 ≤ n := by omega
        rw [hE.out]; simp [digsE, hok, hr, this]
      have hRv : R = [] := by
        have : ¬ 0 ≤ n := by omega
        rw [hR.out]; simp [digsR, hok, hr, this]
      subst hEv hRv
      have hlf := own_formsB hl.out
      replace hr := Lib.hid hr
      clear hE hR hl hok ex ey
      rcases hlf with ⟨rfl, -⟩ | ⟨gl, capl, rfl⟩
      all_goals
        go_wp2_with fail
        refine (rround_any d _).mono ?_
        rintro e v4 ⟨rfl, rfl⟩
        rw [hr.out]
        go_wp2_with fail
        go_meet
        case rel => exact hBW.out
    by_cases hn1 : 1024 < n
    · have hEv : E = 4 := by
        have h1 : 0 ≤ n := by omega
        have h2 : ¬ n ≤ 1024 := by omega
        rw [hE.out]; simp [digsE, hok, hr, h1, h2]
      have hRv : R = [] := by
        have h2 : ¬ n ≤ 1024 := by omega
        rw [hR.out]; simp [digsR, hok, hr, h2]
      subst hEv hRv
      have hlf := own_formsB hl.out
      replace hr := Lib.hid hr
      clear hE hR hl hok ex ey
      rcases hlf with ⟨rfl, -⟩ | ⟨gl, capl, rfl⟩
      all_goals
        go_wp2_with fail
        refine (rround_any d _).mono ?_
        rintro e v4 ⟨rfl, rfl⟩
        rw [hr.out]
        go_wp2_with fail
        go_meet
        case rel => exact hBW.out
    have hd := roundB_iff.1 hr
    obtain ⟨dn, rfl⟩ := Int.eq_ofNat_of_zero_le (show 0 ≤ d by omega)
    obtain ⟨nn, rfl⟩ := Int.eq_ofNat_of_zero_le (show 0 ≤ n by omega)
    have hgc : Nat.gcd x y = 1 := by rw [ex, ey]; exact (okA_spec hok).2.2.2.1
    have hEv : E = 0 := by
      have h1 : (0 : Int) ≤ (nn : Int) := by omega
      have h2 : (nn : Int) ≤ 1024 := by omega
      rw [hE.out]; simp only [digsE, hok, hr, h1, h2, decide_true, Bool.and_self, if_true]
    have hRv : R = digL x y dn nn := by
      have h1 : (0 : Int) ≤ (nn : Int) := by omega
      have h2 : (nn : Int) ≤ 1024 := by omega
      rw [hR.out, ex, ey]; simp only [digsR, hok, hr, h1, h2, decide_true, Bool.and_self, if_true, Int.toNat_natCast]
    have kr : ∀ W, Calls Try.prog 47 #[.agg #[.int .u64 (x : Int), .int .u64 (y : Int)], .int .i64 (dn : Int), .int .i64 (nn : Int)] W (RetRd .u8 5 R W) := fun W => by
      rw [hRv]; exact rdigs_any x y dn nn W k1 l hgc (by omega) (by omega) (by omega)
    have hRl : R.length ≤ 1125899906842624 := by rw [hRv, digL_len]; omega
    have hlr := Lib.hid (own_rdn hl.out)
    subst hEv
    replace hr := Lib.hid hr
    replace kr := Lib.hid kr
    clear hE hR hl hok ex ey hgc hRv hd
    have c0 : v3.cell? ⟨gx, 0, none⟩ = some (.int .u64 (x : Int)) := kx.out.cell 0
    have c1 : v3.cell? ⟨gx, 1, none⟩ = some (.int .u64 (y : Int)) := kx.out.cell 1
    go_wp2_with fail
    refine (rround_any (dn : Int) _).mono ?_
    rintro e v4 ⟨rfl, rfl⟩
    rw [hr.out]
    go_wp2_with fail
    refine (kr.out _).mono ?_
    rintro e v5 ⟨mv, rfl, hm, hb⟩
    replace hBW := Lib.hid (hBW.out.trans (hb.mono hBW.out.size))
    replace hlr := Lib.hid (hlr.out.below hb)
    replace hm := Lib.hid hm
    clear hb c0 c1 kx
    go_wp2_with fail
    refine (bytes_any _ _ R _ hlr.out hm.out hRl).mono ?_
    rintro en v6 ⟨rfl, nd, rfl⟩
    replace hBW := Lib.hid (below_drewN hBW.out nd)
    clear hlr hm
    go_wp2_with fail
    go_meet
    case rel => exact hBW.out
  case rest =>
    obtain ⟨w4, rfl⟩ : ∃ w4 : World, w4 = wc := ⟨_, rfl⟩
    obtain ⟨so1, so2, eo, kof, hpair⟩ := of_pair d l1 l2 hs1.out hs2.out (by omega)
    have e1 : L1 = l1.length := by obtain ⟨A', c', e1, -⟩ := h1.out; injection e1
    have e2 : L2 = l2.length := by obtain ⟨A', c', e1, -⟩ := h2.out; injection e1
    have m1 : L1 ≤ 140737488351232 := by omega
    have m2 : L2 ≤ 140737488351232 := by omega
    obtain ⟨i0, hi, hz0, hz1, hz2⟩ := info_parts info_u8
    have h1c := Lib.hid (h1.out.below hcut)
    have hB0 := Lib.hid hcut
    replace kof := Lib.hid kof
    replace hpair := Lib.hid hpair
    replace e1 := Lib.hid e1
    replace e2 := Lib.hid e2
    have n0 : w4.ownsRow w4.heap.size 5 1 (.slice none 0 0) 0 [] := World.ownsRow_nil _ _ _ _
    replace n0 := Lib.hid n0
    clear hl kx hBW hq hsv hE hR kd hcut r1 r2 hwo hok0
    go_wp2_with (at_builtin; refine wpList_append_rd rfl _ _ 81 rfl .u8 w4.heap.size 5 T1 i0 (.int .u8 0) 1 Try.underlying81 hi hz0 hz1 hz2 rfl _ _ _ rfl n0.out _ _ _ l1 rfl h1c.out ?d1 ?d2 (Nat.le_refl _) ?_)
    case d1 => unfold maxLen; omega
    case d2 => omega
    intro va wa hoa hga
    replace hoa : wa.ownsRow w4.heap.size 5 1 va L1 (ivs .u8 l1) := by simpa using hoa
    have hB1 := Lib.hid (hB0.out.grown hga (by have := hB0.out.size; omega) (fun k hk => by cases hk))
    have hsz1 : Hid (w4.heap.size ≤ wa.heap.size) := Lib.hid hga.size
    replace hoa := Lib.hid hoa
    clear hga n0 h1c
    go_wp2_with (at_builtin; refine wpList_append_own _ rfl _ _ 81 rfl w4.heap.size 5 i0 (.int .u8 0) 1 1 Try.underlying81 hi hz0 hz1 hz2 rfl (by decide) _ _ _ rfl (hoa.out.alloc _) ⟨wa.heap.size, 0, none⟩ 1 1 [.int .u8 77] rfl rfl ?d1 ?d2 ?d3 ?d4 ?d5 ?_)
    case d1 =>
      intro j u hj
      match j, hj with
      | 0, hj => simp at hj; subst hj; simp [Addr.add]
    case d2 => intro u hu; simp at hu; rw [hu]; rfl
    case d3 => unfold maxLen; omega
    case d4 => omega
    case d5 => have := hsz1.out; simp; omega
    intro vb wb hob hgb _
    have hB2 := Lib.hid ((hB1.out.alloc hB1.out.size _).grown hgb (by have := hB1.out.size; simp; omega) (fun k hk => by have := (hoa.out.lt k hk).1; have := hB0.out.size; omega))
    have h2b := Lib.hid (h2.out.below hB2.out)
    obtain ⟨g1, cap1, rfl⟩ : ∃ g cap, vb = .slice (some ⟨g, 0, none⟩) (L1 + 1) cap := by
      rcases own_formsB hob with ⟨-, h⟩ | h
      · omega
      · exact h
    have hc1 := own_caps hob
    have hsb : Hid (w4.heap.size ≤ wb.heap.size) := Lib.hid (by have := hgb.size; have := hsz1.out; simp at *; omega)
    replace hob := Lib.hid hob
    clear hgb hoa hB1 hsz1
    have n1 : wb.ownsRow wb.heap.size 5 1 (.slice none 0 0) 0 [] := World.ownsRow_nil _ _ _ _
    replace n1 := Lib.hid n1
    go_wp2_with (at_builtin; refine wpList_append_rd rfl _ _ 81 rfl .u8 wb.heap.size 5 T2 i0 (.int .u8 0) 1 Try.underlying81 hi hz0 hz1 hz2 rfl _ _ _ rfl n1.out _ _ _ l2 rfl h2b.out ?d1 ?d2 (Nat.le_refl _) ?_)
    case d1 => unfold maxLen; omega
    case d2 => omega
    intro vc wd hoc hgc
    replace hoc : wd.ownsRow wb.heap.size 5 1 vc L2 (ivs .u8 l2) := by simpa using hoc
    have hB3 := Lib.hid (hB2.out.grown hgc (by have := hB2.out.size; omega) (fun k hk => by cases hk))
    have hob2 := Lib.hid (hob.out.kept hgc (.inr (by simp [Value.ownBlock])))
    have hsz2 : Hid (wb.heap.size ≤ wd.heap.size) := Lib.hid hgc.size
    replace hoc := Lib.hid hoc
    clear hgc n1 h2b
    go_wp2_with (at_builtin; refine wpList_append_own _ rfl _ _ 81 rfl wb.heap.size 5 i0 (.int .u8 0) 1 1 Try.underlying81 hi hz0 hz1 hz2 rfl (by decide) _ _ _ rfl (hoc.out.alloc _) ⟨wd.heap.size, 0, none⟩ 1 1 [.int .u8 78] rfl rfl ?d1 ?d2 ?d3 ?d4 ?d5 ?_)
    case d1 =>
      intro j u hj
      match j, hj with
      | 0, hj => simp at hj; subst hj; simp [Addr.add]
    case d2 => intro u hu; simp at hu; rw [hu]; rfl
    case d3 => unfold maxLen; omega
    case d4 => omega
    case d5 => have := hsz2.out; simp; omega
    intro ve we hoe hge _
    have hB4 := (hB3.out.alloc hB3.out.size _).grown hge (by have := hB3.out.size; simp; omega) (fun k hk => by have := (hoc.out.lt k hk).1; have := hB2.out.size; omega)
    have hg1lt : g1 < wb.heap.size := (hob.out.lt g1 rfl).2
    have hoe1 := (hob2.out.alloc _).kept hge (.inr (fun e => by have := (hoc.out.lt g1 e.symm).1; omega))
    obtain ⟨g2, cap2, rfl⟩ : ∃ g cap, ve = .slice (some ⟨g, 0, none⟩) (L2 + 1) cap := by
      rcases own_formsB hoe with ⟨-, h⟩ | h
      · omega
      · exact h
    have hc2 := own_caps hoe
    have hr1 := own_rdn (l := l1 ++ [77]) (by rw [ivs_append]; exact hoe1)
    have hr2 := own_rdn (l := l2 ++ [78]) (by rw [ivs_append]; exact hoe)
    have ht1 := rd_take hr1 (p := L1) (by rw [e1.out]; simp)
    have ht2 := rd_take hr2 (p := L2) (by rw [e2.out]; simp)
    rw [show List.take L1 (l1 ++ [77]) = l1 by rw [e1.out]; simp] at ht1
    rw [show List.take L2 (l2 ++ [78]) = l2 by rw [e2.out]; simp] at ht2
    obtain ⟨ga, oa, ca, La, ea, -, -, hAa, hLa⟩ := hr1.open_ (by simp)
    injection ea with ea1 em ea2
    clear em
    injection ea1 with ea1
    injection ea1 with ea1 ea3
    subst ea1 ea2 ea3
    obtain ⟨gb, ob, cb, Lb, eb, -, -, hAb, hLb⟩ := hr2.open_ (by simp)
    injection eb with eb1 em eb2
    clear em
    injection eb1 with eb1
    injection eb1 with eb1 eb3
    subst eb1 eb2 eb3
    have hx1 : we.cell? ⟨g1, L1, none⟩ = some (.int .u8 77) := by
      have := hAa.cell (hLa L1 77 (by rw [e1.out]; simp))
      simpa using this
    have hx2 : we.cell? ⟨g2, L2, none⟩ = some (.int .u8 78) := by
      have := hAb.cell (hLb L2 78 (by rw [e2.out]; simp))
      simpa using this
    have hl1 := hAa.lt
    have hl2 := hAb.lt
    have h1e := h1.out.below hB4
    have h2e := h2.out.below hB4
    replace ht1 := Lib.hid ht1
    replace ht2 := Lib.hid ht2
    replace hB4 := Lib.hid hB4
    replace h1e := Lib.hid h1e
    replace h2e := Lib.hid h2e
    replace hx1 := Lib.hid hx1
    replace hx2 := Lib.hid hx2
    clear hge hoe hoe1 hoc hob2 hob hB3 hB2 hsz2 hr1 hr2 hAa hLa hAb hLb hg1lt
    go_upto_region 16 with fail
    obtain ⟨wf, hwf⟩ : ∃ wf : World, wf = we := ⟨_, rfl⟩
    replace hwf := Lib.hid hwf
    go_cut [17, 18] from 87 to 100 (fun p q wx => ∃ gr, p = .pointer (some ⟨gr, 0, none⟩) ∧ q = .int .i64 eo ∧ Blk wx gr 24 #[.bool false, .string so1, .string so2] ∧ Below we.heap.size we wx)
    case first =>
      have hb0 : (0 : Int) ≤ (L1 : Int) := by omega
      have hb1 : (L1 : Int) ≤ (cap1 : Int) := by omega
      have hb2 : (0 : Int) ≤ (L2 : Int) := by omega
      have hb3 : (L2 : Int) ≤ (cap2 : Int) := by omega
      have hb4 : L1 ≤ cap1 := by omega
      have hb5 : L2 ≤ cap2 := by omega
      have hq1 : Calls Try.prog 48 #[.int .i64 d, .slice (some ⟨g1, 0, none⟩) L1 cap1, .slice (some ⟨g2, 0, none⟩) L2 cap2] we.drew (RetVal (.tuple #[.agg #[.bool false, .string so1, .string so2], .int .i64 eo]) we.drew) :=
        kof.out _ _ _ ht1.out.drew ht2.out.drew
      have hq2 : ∀ o, Calls Try.prog 48 #[.int .i64 d, .slice (some ⟨g1, 0, none⟩) L1 cap1, .slice (some ⟨g2, 0, none⟩) L2 cap2] (we.drew.alloc o) (RetVal (.tuple #[.agg #[.bool false, .string so1, .string so2], .int .i64 eo]) (we.drew.alloc o)) := fun o =>
        kof.out _ _ _ (ht1.out.drew.alloc o) (ht2.out.drew.alloc o)
      replace hq1 := Lib.hid hq1
      replace hq2 := Lib.hid hq2
      clear hpair hx1 hx2 h1e h2e ht1 ht2 kof hB0 hB4
      go_region_held3 (fun _ => True) (trivial)
        (first
          | (go_at_call 48; first | (refine (hq1.out).mono ?_; rintro en v9 ⟨rfl, hb⟩; have hr9 := Lib.hid hb; clear hb; have tok1 := Lib.hid trivial) | (refine (hq2.out _).mono ?_; rintro en v9 ⟨rfl, hb⟩; have kz := Blk.below (Blk.new we.drew 24 #[.bool false, .string ⟨#[]⟩, .string ⟨#[]⟩]) hb; have z0 : v9.cell? ⟨we.heap.size, 0, none⟩ = some (.bool false) := kz.cell 0; have z1 : v9.cell? ⟨we.heap.size, 1, none⟩ = some (.string ⟨#[]⟩) := kz.cell 1; have z2 : v9.cell? ⟨we.heap.size, 2, none⟩ = some (.string ⟨#[]⟩) := kz.cell 2; have y0 : v9.frozen? ⟨we.heap.size, 0, none⟩ = false := kz.frozen 0; have y1 : v9.frozen? ⟨we.heap.size, 1, none⟩ = false := kz.frozen 1; have y2 : v9.frozen? ⟨we.heap.size, 2, none⟩ = false := kz.frozen 2; replace kz := Lib.hid kz; have hr9 := Lib.hid hb; clear hb)))
      all_goals go_wp2_with fail
      all_goals go_meet
      case rel =>
        have hw9 : Below we.heap.size we v9 := (Below.refl _ we).drew.trans hr9.out
        exact ⟨_, rfl, rfl, Blk.new _ _ _, hw9.alloc hw9.size _⟩
      case rel =>
        have hw9 : Below we.heap.size we v9 := ((Below.refl _ we).drew.alloc (Nat.le_refl _) _).trans (hr9.out.mono (by simp))
        exact ⟨_, rfl, rfl, ((kz.out.set_ 0 _).set_ 1 _).set_ 2 _, ((hw9.setCell (p := ⟨we.heap.size, 0, none⟩) (Nat.le_refl _) _).setCell (p := ⟨we.heap.size, 1, none⟩) (Nat.le_refl _) _).setCell (p := ⟨we.heap.size, 2, none⟩) (Nat.le_refl _) _⟩
    case rest =>
      obtain ⟨gr, rfl, rfl, kr, hbr⟩ := hcut
      replace ht1 := Lib.hid (ht1.out.below hbr)
      replace ht2 := Lib.hid (ht2.out.below hbr)
      replace h1e := Lib.hid (h1e.out.below hbr)
      replace h2e := Lib.hid (h2e.out.below hbr)
      replace hx1 := Lib.hid ((hbr.cell (p := ⟨g1, L1, none⟩) hl1).trans hx1.out)
      replace hx2 := Lib.hid ((hbr.cell (p := ⟨g2, L2, none⟩) hl2).trans hx2.out)
      have hBW := Lib.hid (hB4.out.trans (hbr.mono hB4.out.size))
      replace kr := Lib.hid kr
      clear hbr hB4 hB0 kof hl1 hl2
      go_wp2_with fail
      refine (bytes_any _ _ l1 _ ht1.out h1e.out (by have := e1.out; omega)).mono ?_
      rintro en v6 ⟨rfl, nd, rfl⟩
      replace ht2 := Lib.hid (ht2.out.drewN nd)
      replace h2e := Lib.hid (h2e.out.drewN nd)
      replace h1e := Lib.hid (h1e.out.drewN nd)
      have x1 : (wc.drewN nd).cell? ⟨g1, L1, none⟩ = some (.int .u8 77) := hx1.out
      have b1 : (0 : Int) ≤ (L1 : Int) := by omega
      have b2 : (L1 : Int) < (L1 : Int) + 1 := by omega
      clear ht1
      go_wp2_with fail
      refine (bytes_any _ _ l2 _ ht2.out h2e.out (by have := e2.out; omega)).mono ?_
      rintro en v7 ⟨rfl, nd2, rfl⟩
      obtain ⟨wz, hz⟩ : ∃ wz, wz = (wc.drewN nd).drewN nd2 := ⟨_, rfl⟩
      have x2 : wz.cell? ⟨g2, L2, none⟩ = some (.int .u8 78) := by rw [hz]; exact hx2.out
      have h1z := Lib.hid (show Rd .u8 T1 wz (.slice A1 L1 c1) l1 by rw [hz]; exact h1e.out)
      have h2z := Lib.hid (show Rd .u8 T2 wz (.slice A2 L2 c2) l2 by rw [hz]; exact h2e.out)
      have krz := Lib.hid (show Blk wz gr 24 #[.bool false, .string so1, .string so2] by rw [hz]; exact kr.out)
      have hBz := Lib.hid (show Below w.heap.size w wz by rw [hz]; exact below_drewN (below_drewN hBW.out nd) nd2)
      have b3 : (0 : Int) ≤ (L2 : Int) := by omega
      have b4 : (L2 : Int) < (L2 : Int) + 1 := by omega
      rw [← hz]
      clear hz x1 h1e h2e ht2 hx1 hx2 kr hBW b1 b2
      go_wp2_with fail
      refine (rround_any d _).mono ?_
      rintro en v8 ⟨rfl, rfl⟩
      have k0 : wz.cell? ⟨gr, 0, none⟩ = some (.bool false) := krz.out.cell 0
      have k1 : wz.cell? ⟨gr, 1, none⟩ = some (.string so1) := krz.out.cell 1
      have k2 : wz.cell? ⟨gr, 2, none⟩ = some (.string so2) := krz.out.cell 2
      clear x2 b3 b4
      rcases hpair.out with ⟨hr, rfl, rfl, rfl⟩ | ⟨hr, N, D, f, kfd, kis⟩
      · rw [hr]
        clear hr hpair
        go_wp2_with fail
        refine (awake_any _).mono ?_
        rintro en v9 ⟨rfl, hb⟩
        replace hBz := Lib.hid (hBz.out.trans (hb.mono hBz.out.size))
        clear hb
        go_wp2_with fail
        go_ret
        exact ⟨rfl, hBz.out⟩
      · rw [hr]
        replace kfd := Lib.hid kfd
        replace kis := Lib.hid kis
        clear hr hpair
        go_wp2_with fail
        refine (kfd.out _ T1 T2 _ _ h1z.out h2z.out).mono ?_
        rintro en v9 ⟨rfl, hb⟩
        replace krz := (Blk.below krz.out hb).alloc (.cells #[.int .u64 (N : Int), .int .u64 (D : Int)] 34)
        have ky := Blk.new v9 34 #[.int .u64 (N : Int), .int .u64 (D : Int)]
        replace hBz := hBz.out.trans (hb.mono hBz.out.size)
        replace hBz := hBz.alloc hBz.size (.cells #[.int .u64 (N : Int), .int .u64 (D : Int)] 34)
        clear hb k0 k1 k2 h1z h2z
        go_upto_region 22 with fail
        generalize hxx : v9.alloc (.cells #[.int .u64 (N : Int), .int .u64 (D : Int)] 34) = wy at krz ky hBz ⊢
        generalize hgg : v9.heap.size = gy at *
        clear hxx hgg
        have k0 : wy.cell? ⟨gr, 0, none⟩ = some (.bool false) := krz.cell 0
        have k1 : wy.cell? ⟨gr, 1, none⟩ = some (.string so1) := krz.cell 1
        have k2 : wy.cell? ⟨gr, 2, none⟩ = some (.string so2) := krz.cell 2
        have q0 : wy.cell? ⟨gy, 0, none⟩ = some (.int .u64 (N : Int)) := ky.cell 0
        have q1 : wy.cell? ⟨gy, 1, none⟩ = some (.int .u64 (D : Int)) := ky.cell 1
        replace hBz := Lib.hid hBz
        clear krz ky
        go_wp2_with fail
        refine (kis.out _).mono ?_
        rintro en u1 ⟨rfl, hb⟩
        replace hBz := Lib.hid (hBz.out.trans (hb.mono hBz.out.size))
        clear hb k0 k1 k2 q0 q1
        go_wp2_with fail
        refine (awake_any _).mono ?_
        rintro en u2 ⟨rfl, hb⟩
        replace hBz := Lib.hid (hBz.out.trans (hb.mono hBz.out.size))
        clear hb
        go_wp2_with fail
        go_ret
        exact ⟨rfl, hBz.out⟩
end Go.Proofs.Ytciafmnideihjaa
