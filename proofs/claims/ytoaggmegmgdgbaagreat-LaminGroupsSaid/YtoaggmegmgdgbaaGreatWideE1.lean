import Derived.Test.YtoaggmegmgdgbaaGreatKnuth
import Derived.Deep.CutBlock
import Derived.Test.YtoaggmegmgdgbaaGreatShelf
import Derived.Laws.CopyOwn
import Derived.StillTailTactics
import Derived.Deep.LoopGhost
namespace Go.Proofs.YtoaggmegmgdgbaaGreat
open Go.RowKit
noncomputable def corrCode : Code := (Tryz.f167.body.bind (findBlock 2)).getD .skip
set_option maxRecDepth 100000 in
set_option maxHeartbeats 1000000 in
theorem corr_wp (c0 c1 c2 c3 c4 c5 c6 c7 c8 c12 c17 c18 c19 c20 c21 c22 c23 c24 c25 c26 c27 c28 c29 c30 c31 c32 c33 c34 c35 c36 c37 c38 c39 c40 c41 c42 c43 c44 c45 c46 c47 c48 c49 c50 c51 c52 c53 c54 c55 c56 c57 c58 c59 c60 c61 c62 c63 c64 c65 c66 c67 c68 c69 c70 c71 c72 c73 c74 c75 c76 c77 c78 c79 c80 c81 c82 c83 c84 c85 c86 c87 c88 c89 c90 c91 c92 c93 c94 c95 c96 c97 c98 c99 c100 c101 c102 c103 c104 c105 c106 c107 c108 c109 c110 c111 c112 c113 c114 c115 c116 c117 c118 c119 c120 c121 c122 c123 c124 c125 c126 c127 c128 c129 c130 c131 c132 c133 c134 c135 c136 c137 c138 c139 c140 c141 c142 c143 c144 c145 c146 c147 c148 c149 c150 c151 c152 c153 c154 c155 c156 c157 c158 c159 c160 c161 c162 c163 c164 c165 c166 c167 c168 c169 c170 c171 c172 c173 c174 c175 c176 c177 c178 c179 c180 c181 c182 c183 c184 c185 c186 c187 c188 c189 c190 c191 c192 c193 c194 c195 c196 c197 c198 c199 c200 c201 c202 c203 c204 c205 c206 c207 c208 c209 c210 c211 c212 c213 c214 c215 c216 c217 c218 c219 c220 c221 c222 c223 c224 c225 c226 c227 c228 c229 c230 c231 c232 c233 c234 c235 c236 c237 c238 c239 c240 c241 c242 c243 c244 c245 c246 c247 c248 c249 c250 c251 c252 c253 c254 c255 c256 c257 c258 : Value) (wr : World) (Q : Exit → Act → World → Prop)
    (gu gv ov cv n k N g0 r0 u0 u1 u2 v1 v2 T V Rv P0 lv lu : Nat) (hl : 2 ≤ n) (hkn : k + n < N + 1) (hN : N ≤ 1073741823)
    (hu1s : u1 < 4294967296) (hu2s : u2 < 4294967296) (hv2s : v2 < 4294967296) (hv1s : v1 < 4294967296) (hv1p : 0 < v1)
    (hcu2 : wr.cell? ⟨gu, k + n - 2, none⟩ = some (.int .u32 (u2 : Int)))
    (hcv1 : wr.cell? ⟨gv, ov + (n - 1), none⟩ = some (.int .u32 (v1 : Int)))
    (hcv2 : wr.cell? ⟨gv, ov + (n - 2), none⟩ = some (.int .u32 (v2 : Int)))
    (HT : Hid (T = u0 * 4294967296 + u1)) (hg0 : g0 < 18446744073709551616) (hr0 : r0 < 4294967296) (H0 : Hid (g0 * v1 + r0 = T)) (Hst : Hid (Rv < (g0 + 1) * V))
    (hu0v : u0 ≤ v1) (hlu : lu < P0) (hlv : lv < P0) (HRe : Hid (Rv = ((u0 * 4294967296 + u1) * 4294967296 + u2) * P0 + lu)) (HVd : Hid (V = (v1 * 4294967296 + v2) * P0 + lv)) (HRV : Hid (Rv < 4294967296 * V))
    (hQ : ∀ (G : Nat) (u16 u110 u111 u112 u113 u114 u115 u116 u117 u118 u119 u120 u121 u122 u123 u124 u125 u126 u127 u128 u129 u130 u131 u132 u133 u134 u135 u136 u137 u138 u139 u140 u141 u142 u143 u144 u145 u146 u147 : Value) (wx : World), G < 4294967296 → Rv < (G + 1) * V → G * V ≤ Rv + V → Dr wr wx →
      Q .normal ⟨#[c0, c1, c2, c3, c4, c5, c6, c7, c8, .slice (some ⟨gv, ov, none⟩) n cv, .slice (some ⟨gu, 0, none⟩) (N + 1) (N + 1), .int .i64 (n : Int), c12, .int .i64 (k : Int), .int .u64 (T : Int), .int .u64 (G : Int), u16, c17, c18, c19, c20, c21, c22, c23, c24, c25, c26, c27, c28, c29, c30, c31, c32, c33, c34, c35, c36, c37, c38, c39, c40, c41, c42, c43, c44, c45, c46, c47, c48, c49, c50, c51, c52, c53, c54, c55, c56, c57, c58, c59, c60, c61, c62, c63, c64, c65, c66, c67, c68, c69, c70, c71, c72, c73, c74, c75, c76, c77, c78, c79, c80, c81, c82, c83, c84, c85, c86, c87, c88, c89, c90, c91, c92, c93, c94, c95, c96, c97, c98, c99, c100, c101, c102, c103, c104, c105, c106, c107, c108, c109, u110, u111, u112, u113, u114, u115, u116, u117, u118, u119, u120, u121, u122, u123, u124, u125, u126, u127, u128, u129, u130, u131, u132, u133, u134, u135, u136, u137, u138, u139, u140, u141, u142, u143, u144, u145, u146, u147, c148, c149, c150, c151, c152, c153, c154, c155, c156, c157, c158, c159, c160, c161, c162, c163, c164, c165, c166, c167, c168, c169, c170, c171, c172, c173, c174, c175, c176, c177, c178, c179, c180, c181, c182, c183, c184, c185, c186, c187, c188, c189, c190, c191, c192, c193, c194, c195, c196, c197, c198, c199, c200, c201, c202, c203, c204, c205, c206, c207, c208, c209, c210, c211, c212, c213, c214, c215, c216, c217, c218, c219, c220, c221, c222, c223, c224, c225, c226, c227, c228, c229, c230, c231, c232, c233, c234, c235, c236, c237, c238, c239, c240, c241, c242, c243, c244, c245, c246, c247, c248, c249, c250, c251, c252, c253, c254, c255, c256, c257, c258], []⟩ wx) :
    Code.wp Tryz.prog corrCode Q ⟨#[c0, c1, c2, c3, c4, c5, c6, c7, c8, .slice (some ⟨gv, ov, none⟩) n cv, .slice (some ⟨gu, 0, none⟩) (N + 1) (N + 1), .int .i64 (n : Int), c12, .int .i64 (k : Int), .int .u64 (T : Int), .int .u64 (g0 : Int), .int .u64 (r0 : Int), c17, c18, c19, c20, c21, c22, c23, c24, c25, c26, c27, c28, c29, c30, c31, c32, c33, c34, c35, c36, c37, c38, c39, c40, c41, c42, c43, c44, c45, c46, c47, c48, c49, c50, c51, c52, c53, c54, c55, c56, c57, c58, c59, c60, c61, c62, c63, c64, c65, c66, c67, c68, c69, c70, c71, c72, c73, c74, c75, c76, c77, c78, c79, c80, c81, c82, c83, c84, c85, c86, c87, c88, c89, c90, c91, c92, c93, c94, c95, c96, c97, c98, c99, c100, c101, c102, c103, c104, c105, c106, c107, c108, c109, c110, c111, c112, c113, c114, c115, c116, c117, c118, c119, c120, c121, c122, c123, c124, c125, c126, c127, c128, c129, c130, c131, c132, c133, c134, c135, c136, c137, c138, c139, c140, c141, c142, c143, c144, c145, c146, c147, c148, c149, c150, c151, c152, c153, c154, c155, c156, c157, c158, c159, c160, c161, c162, c163, c164, c165, c166, c167, c168, c169, c170, c171, c172, c173, c174, c175, c176, c177, c178, c179, c180, c181, c182, c183, c184, c185, c186, c187, c188, c189, c190, c191, c192, c193, c194, c195, c196, c197, c198, c199, c200, c201, c202, c203, c204, c205, c206, c207, c208, c209, c210, c211, c212, c213, c214, c215, c216, c217, c218, c219, c220, c221, c222, c223, c224, c225, c226, c227, c228, c229, c230, c231, c232, c233, c234, c235, c236, c237, c238, c239, c240, c241, c242, c243, c244, c245, c246, c247, c248, c249, c250, c251, c252, c253, c254, c255, c256, c257, c258], []⟩ wr := by
  conv => arg 2; whnf
  have hQ := Lib.hid hQ
  go_wp2_with fail
  go_loopw [15, 16] (fun g r wx => ∃ G R : Nat, g = .int .u64 (G : Int) ∧ r = .int .u64 (R : Int) ∧ G < 18446744073709551616 ∧ R < 4294967296 ∧ G * v1 + R = T ∧ Rv < (G + 1) * V ∧ Dr wr wx) (fun g _ _ => (intOf g).toNat)
  case atStart => exact ⟨g0, r0, rfl, rfl, hg0, hr0, H0.out, Hst.out, Dr.refl _⟩
  case round =>
    obtain ⟨G, R, rfl, rfl, hG, hR, hGR, hGV, m, rfl⟩ := hrel
    have HGR := Lib.hid hGR
    have HGV := Lib.hid hGV
    clear hGR hGV
    by_cases hGB : G < 4294967296
    · have hsh : ((G : Int) / 4294967296) = 0 := by omega
      have t1 : ((G : Int) / 4294967296 != 0) = false := by rw [hsh]; rfl
      obtain ⟨P, hP⟩ : ∃ P, P = G * v2 := ⟨_, rfl⟩
      have hPi : (G : Int) * (v2 : Int) = (P : Int) := by rw [hP]; push_cast; rfl
      have hPs : P ≤ 18446744065119617025 := by rw [hP]; exact Nat.mul_le_mul (show G ≤ 4294967295 by omega) (show v2 ≤ 4294967295 by omega)
      obtain ⟨S, hS⟩ : ∃ S, S = R * 4294967296 + u2 := ⟨_, rfl⟩
      have hSi : bits .or .u64 ((R : Int) * 4294967296) (u2 : Int) = (S : Int) := by rw [hS]; exact or64_hi R u2 hR hu2s
      have HP := Lib.hid hP
      have HS := Lib.hid hS
      clear hP hS
      by_cases htest : S < P
      · have t2 : ((S : Int) < (P : Int)) := by omega
        have hlow : Rv < G * V := kn_under HVd.out HRe.out hlu (by rw [HGR.out, HT.out]) (by rw [← HS.out, ← HP.out]; exact htest)
        have hG0 : 0 < G := by
          rcases Nat.eq_zero_or_pos G with h0 | h0
          · subst h0; simp at hlow
          · exact h0
        have hG1 : (1 : Int) ≤ (G : Int) := by omega
        have HLOW : Hid (Rv < (G - 1 + 1) * V) := Lib.hid (by rw [show G - 1 + 1 = G by omega]; exact hlow)
        have HGR1 : Hid ((G - 1) * v1 + (R + v1) = T) := Lib.hid (by
          rw [← HGR.out]
          obtain ⟨G', rfl⟩ : ∃ G', G = G' + 1 := ⟨G - 1, by omega⟩
          rw [Nat.add_sub_cancel, Nat.add_mul, Nat.one_mul]; omega)
        clear hlow
        by_cases hbr : R + v1 < 4294967296
        · have t3 : (((R : Int) + (v1 : Int)) / 4294967296 != 0) = false := by rw [show ((R : Int) + (v1 : Int)) / 4294967296 = 0 by omega]; rfl
          go_wp2_with fail
          go_quiet (fail)
          go_wp2_with fail
          go_roundw
          case rel => exact ⟨G - 1, R + v1, by go_num, by go_num, by omega, hbr, HGR1.out, HLOW.out, by repeat (first | exact Dr.refl _ | apply Dr.drewN)⟩
          case measure => simp [intOf]; omega
        · have t3 : (((R : Int) + (v1 : Int)) / 4294967296 != 0) = true := by rw [bne_iff_ne]; omega
          have hbrk := kn_break (u2 := u2) hu0v hu1s hv2s (by rw [HGR1.out, HT.out]) (show 4294967296 ≤ R + v1 by omega)
          have hov := kn_over HVd.out HRe.out hlv hv1p (by rw [HGR1.out, HT.out]) hbrk.1 hbrk.2
          have HBR := Lib.hid hbrk
          have HOV := Lib.hid hov
          clear hbrk hov
          go_wp2_with fail
          go_quiet (fail)
          go_wp2_with fail
          rw [show (G : Int) - 1 = ((G - 1 : Nat) : Int) by omega]
          exact hQ.out (G - 1) _ _ _ _ _ _ _ _ _ _ _ _ _ _ _ _ _ _ _ _ _ _ _ _ _ _ _ _ _ _ _ _ _ _ _ _ _ _ _ _ (by omega) HLOW.out HOV.out (by repeat (first | exact Dr.refl _ | apply Dr.drewN))
      · have t2 : ¬ ((S : Int) < (P : Int)) := by omega
        have hov := kn_over HVd.out HRe.out hlv hv1p (by rw [HGR.out, HT.out]) hGB (by rw [← HS.out, ← HP.out]; omega)
        have HOV := Lib.hid hov
        clear hov
        go_wp2_with fail
        go_quiet (fail)
        go_wp2_with fail
        exact hQ.out (G) _ _ _ _ _ _ _ _ _ _ _ _ _ _ _ _ _ _ _ _ _ _ _ _ _ _ _ _ _ _ _ _ _ _ _ _ _ _ _ _ hGB HGV.out HOV.out (by repeat (first | exact Dr.refl _ | apply Dr.drewN))
    · have t1 : ((G : Int) / 4294967296 != 0) = true := by rw [bne_iff_ne]; omega
      have hlow : Rv < G * V := Nat.lt_of_lt_of_le HRV.out (Nat.mul_le_mul_right _ (by omega))
      have hG1 : (1 : Int) ≤ (G : Int) := by omega
      have HLOW : Hid (Rv < (G - 1 + 1) * V) := Lib.hid (by rw [show G - 1 + 1 = G by omega]; exact hlow)
      have HGR1 : Hid ((G - 1) * v1 + (R + v1) = T) := Lib.hid (by
        rw [← HGR.out]
        obtain ⟨G', rfl⟩ : ∃ G', G = G' + 1 := ⟨G - 1, by omega⟩
        rw [Nat.add_sub_cancel, Nat.add_mul, Nat.one_mul]; omega)
      clear hlow
      by_cases hbr : R + v1 < 4294967296
      · have t3 : (((R : Int) + (v1 : Int)) / 4294967296 != 0) = false := by rw [show ((R : Int) + (v1 : Int)) / 4294967296 = 0 by omega]; rfl
        go_wp2_with fail
        go_quiet (fail)
        go_wp2_with fail
        go_roundw
        case rel => exact ⟨G - 1, R + v1, by go_num, by go_num, by omega, hbr, HGR1.out, HLOW.out, by repeat (first | exact Dr.refl _ | apply Dr.drewN)⟩
        case measure => simp [intOf]; omega
      · have t3 : (((R : Int) + (v1 : Int)) / 4294967296 != 0) = true := by rw [bne_iff_ne]; omega
        have hbrk := kn_break (u2 := u2) hu0v hu1s hv2s (by rw [HGR1.out, HT.out]) (show 4294967296 ≤ R + v1 by omega)
        have hov := kn_over HVd.out HRe.out hlv hv1p (by rw [HGR1.out, HT.out]) hbrk.1 hbrk.2
        have HBR := Lib.hid hbrk
        have HOV := Lib.hid hov
        have hGs : G - 1 < 4294967296 := hbrk.1
        clear hbrk hov
        go_wp2_with fail
        go_quiet (fail)
        go_wp2_with fail
        rw [show (G : Int) - 1 = ((G - 1 : Nat) : Int) by omega]
        exact hQ.out (G - 1) _ _ _ _ _ _ _ _ _ _ _ _ _ _ _ _ _ _ _ _ _ _ _ _ _ _ _ _ _ _ _ _ _ _ _ _ _ _ _ _ hGs HLOW.out HOV.out (by repeat (first | exact Dr.refl _ | apply Dr.drewN))
open Go.RowKit
noncomputable def mulCode : Code := (Tryz.f167.body.bind (findBlock 4)).getD .skip
set_option maxRecDepth 100000 in
set_option maxHeartbeats 1000000 in
theorem mul_wp (c0 c1 c2 c3 c4 c5 c6 c7 c8 c11 c12 c14 c16 c19 c20 c21 c22 c23 c24 c25 c26 c27 c28 c29 c30 c31 c32 c33 c34 c35 c36 c37 c38 c39 c40 c41 c42 c43 c44 c45 c46 c47 c48 c49 c50 c51 c52 c53 c54 c55 c56 c57 c58 c59 c60 c61 c62 c63 c64 c65 c66 c67 c68 c69 c70 c71 c72 c73 c74 c75 c76 c77 c78 c79 c80 c81 c82 c83 c84 c85 c86 c87 c88 c89 c90 c91 c92 c93 c94 c95 c96 c97 c98 c99 c100 c101 c102 c103 c104 c105 c106 c107 c108 c109 c110 c111 c112 c113 c114 c115 c116 c117 c118 c119 c120 c121 c122 c123 c124 c125 c126 c127 c128 c129 c130 c131 c132 c133 c134 c135 c136 c137 c138 c139 c140 c141 c142 c143 c144 c145 c146 c147 c150 c151 c152 c153 c154 c155 c156 c157 c158 c159 c160 c161 c162 c163 c164 c165 c166 c167 c168 c169 c170 c171 c172 c173 c174 c175 c176 c177 c178 c179 c180 c181 c182 c183 c184 c185 c186 c187 c188 c189 c190 c191 c192 c193 c194 c195 c196 c197 c198 c199 c200 c201 c202 c203 c204 c205 c206 c207 c208 c209 c210 c211 c212 c213 c214 c215 c216 c217 c218 c219 c220 c221 c222 c223 c224 c225 c226 c227 c228 c229 c230 c231 c232 c233 c234 c235 c236 c237 c238 c239 c240 c241 c242 c243 c244 c245 c246 c247 c248 c249 c250 c251 c252 c253 c254 c255 c256 c257 c258 : Value) (w1 w2 : World) (Q : Exit → Act → World → Prop)
    (gu gv ov cv n k N G : Nat) (U lv : List Nat) (hkn : k + n < N + 1) (hN : N ≤ 1073741823) (hG : G < 4294967296)
    (hUl : Hid (U.length = N + 1)) (hUs : Sm U) (hU : Arr w1 gu .u32 243 U) (hB : Below gu w2 w1) (hgv : gv < gu)
    (hgetV : ∀ t, t < n → ∃ y, lv[t]? = some y ∧ y < 4294967296 ∧ w2.cell? ⟨gv, ov + t, none⟩ = some (.int .u32 (y : Int)))
    (hQ : ∀ (m c : Nat) (U' : List Nat) (u19 u20 u149 u150 u151 u152 u153 u154 u155 u156 u157 u158 u159 u160 u161 u162 u163 u164 u165 u166 u167 u168 u169 u170 u171 u172 u173 u174 u175 u176 u177 u178 u179 u180 u181 u182 u183 u184 u185 : Value) (wx : World), MulInv U lv G k n m c U' → Arr wx gu .u32 243 U' → w1.grownBy wx (some gu) →
      Q .normal ⟨#[c0, c1, c2, c3, c4, c5, c6, c7, c8, .slice (some ⟨gv, ov, none⟩) n cv, .slice (some ⟨gu, 0, none⟩) (N + 1) (N + 1), c11, c12, .int .i64 (k : Int), c14, .int .u64 (G : Int), c16, .int .u64 (c : Int), .int .u64 (m : Int), u19, u20, c21, c22, c23, c24, c25, c26, c27, c28, c29, c30, c31, c32, c33, c34, c35, c36, c37, c38, c39, c40, c41, c42, c43, c44, c45, c46, c47, c48, c49, c50, c51, c52, c53, c54, c55, c56, c57, c58, c59, c60, c61, c62, c63, c64, c65, c66, c67, c68, c69, c70, c71, c72, c73, c74, c75, c76, c77, c78, c79, c80, c81, c82, c83, c84, c85, c86, c87, c88, c89, c90, c91, c92, c93, c94, c95, c96, c97, c98, c99, c100, c101, c102, c103, c104, c105, c106, c107, c108, c109, c110, c111, c112, c113, c114, c115, c116, c117, c118, c119, c120, c121, c122, c123, c124, c125, c126, c127, c128, c129, c130, c131, c132, c133, c134, c135, c136, c137, c138, c139, c140, c141, c142, c143, c144, c145, c146, c147, .int .i64 (n : Int), u149, u150, u151, u152, u153, u154, u155, u156, u157, u158, u159, u160, u161, u162, u163, u164, u165, u166, u167, u168, u169, u170, u171, u172, u173, u174, u175, u176, u177, u178, u179, u180, u181, u182, u183, u184, u185, c186, c187, c188, c189, c190, c191, c192, c193, c194, c195, c196, c197, c198, c199, c200, c201, c202, c203, c204, c205, c206, c207, c208, c209, c210, c211, c212, c213, c214, c215, c216, c217, c218, c219, c220, c221, c222, c223, c224, c225, c226, c227, c228, c229, c230, c231, c232, c233, c234, c235, c236, c237, c238, c239, c240, c241, c242, c243, c244, c245, c246, c247, c248, c249, c250, c251, c252, c253, c254, c255, c256, c257, c258], []⟩ wx) :
    Code.wp Tryz.prog mulCode Q ⟨#[c0, c1, c2, c3, c4, c5, c6, c7, c8, .slice (some ⟨gv, ov, none⟩) n cv, .slice (some ⟨gu, 0, none⟩) (N + 1) (N + 1), c11, c12, .int .i64 (k : Int), c14, .int .u64 (G : Int), c16, .int .u64 0, .int .u64 0, c19, c20, c21, c22, c23, c24, c25, c26, c27, c28, c29, c30, c31, c32, c33, c34, c35, c36, c37, c38, c39, c40, c41, c42, c43, c44, c45, c46, c47, c48, c49, c50, c51, c52, c53, c54, c55, c56, c57, c58, c59, c60, c61, c62, c63, c64, c65, c66, c67, c68, c69, c70, c71, c72, c73, c74, c75, c76, c77, c78, c79, c80, c81, c82, c83, c84, c85, c86, c87, c88, c89, c90, c91, c92, c93, c94, c95, c96, c97, c98, c99, c100, c101, c102, c103, c104, c105, c106, c107, c108, c109, c110, c111, c112, c113, c114, c115, c116, c117, c118, c119, c120, c121, c122, c123, c124, c125, c126, c127, c128, c129, c130, c131, c132, c133, c134, c135, c136, c137, c138, c139, c140, c141, c142, c143, c144, c145, c146, c147, .int .i64 (n : Int), .int .i64 0, c150, c151, c152, c153, c154, c155, c156, c157, c158, c159, c160, c161, c162, c163, c164, c165, c166, c167, c168, c169, c170, c171, c172, c173, c174, c175, c176, c177, c178, c179, c180, c181, c182, c183, c184, c185, c186, c187, c188, c189, c190, c191, c192, c193, c194, c195, c196, c197, c198, c199, c200, c201, c202, c203, c204, c205, c206, c207, c208, c209, c210, c211, c212, c213, c214, c215, c216, c217, c218, c219, c220, c221, c222, c223, c224, c225, c226, c227, c228, c229, c230, c231, c232, c233, c234, c235, c236, c237, c238, c239, c240, c241, c242, c243, c244, c245, c246, c247, c248, c249, c250, c251, c252, c253, c254, c255, c256, c257, c258], []⟩ w1 := by
  conv => arg 2; whnf
  have hQ := Lib.hid hQ
  have hgetV := Lib.hid hgetV
  have hB := Lib.hid hB
  go_wp2_with fail
  go_loopw [17, 18, 149] (fun c m i wx => ∃ (C M I : Nat) (U' : List Nat), c = .int .u64 (C : Int) ∧ m = .int .u64 (M : Int) ∧ i = .int .i64 (I : Int) ∧ I ≤ n ∧ MulInv U lv G k I M C U' ∧ Arr wx gu .u32 243 U' ∧ w1.grownBy wx (some gu)) (fun _ _ i _ => n - (intOf i).toNat)
  case atStart => exact ⟨0, 0, 0, U, rfl, rfl, rfl, Nat.zero_le _, MulInv.start hUs lv G k, hU, gb_refl _ _⟩
  case round =>
    obtain ⟨C, M, I, U', rfl, rfl, rfl, hI, hK, hA, hg⟩ := hrel
    have hK := Lib.hid hK
    by_cases h0 : I < n
    · obtain ⟨x, hx, hxs, hcx⟩ := hgetV.out I h0
      obtain ⟨y, hy⟩ : ∃ y, U'[I + k]? = some y := ⟨_, List.getElem?_eq_getElem (by rw [hK.out.len, hUl.out]; omega)⟩
      have hys : y < 4294967296 := hK.out.sm.get hy
      have hcy : wr.cell? ⟨gu, I + k, none⟩ = some (.int .u32 (y : Int)) := hA.cell hy
      have hfy : wr.frozen? ⟨gu, I + k, none⟩ = false := hA.frozen _
      have hcx' : wr.cell? ⟨gv, ov + I, none⟩ = some (.int .u32 (x : Int)) := (hg.cell ((hB.out.cell (p := ⟨gv, ov + I, none⟩) hgv).trans hcx) (by simp; omega))
      have hM := hK.out.hm
      have hC := hK.out.hc
      obtain ⟨P, hP⟩ : ∃ P, P = G * x := ⟨_, rfl⟩
      have hPi : (G : Int) * (x : Int) = (P : Int) := by rw [hP]; push_cast; rfl
      have hPs : P ≤ 18446744065119617025 := by rw [hP]; exact Nat.mul_le_mul (show G ≤ 4294967295 by omega) (show x ≤ 4294967295 by omega)
      obtain ⟨S, hS⟩ : ∃ S, S = M + P := ⟨_, rfl⟩
      have hSi : (M : Int) + (P : Int) = (S : Int) := by rw [hS]; push_cast; rfl
      have hSs : S < 18446744073709551616 := by omega
      obtain ⟨sl, hsl⟩ : ∃ sl, sl = S % 4294967296 := ⟨_, rfl⟩
      have hsli : (S : Int) % 4294967296 = (sl : Int) := by rw [hsl]; rfl
      have hsls : sl < 4294967296 := by omega
      obtain ⟨sh, hsh⟩ : ∃ sh, sh = S / 4294967296 := ⟨_, rfl⟩
      have hshi : (S : Int) / 4294967296 = (sh : Int) := by rw [hsh]; rfl
      obtain ⟨D1, hD1⟩ : ∃ D1, D1 = (y + 18446744073709551616 - sl) % 18446744073709551616 := ⟨_, rfl⟩
      have hD1i : IntKind.u64.wrap ((y : Int) - (sl : Int)) = (D1 : Int) := by rw [IntKind.wrap_u64, hD1]; omega
      obtain ⟨D2, hD2⟩ : ∃ D2, D2 = (D1 + 18446744073709551616 - C) % 18446744073709551616 := ⟨_, rfl⟩
      have hD2i : IntKind.u64.wrap ((D1 : Int) - (C : Int)) = (D2 : Int) := by rw [IntKind.wrap_u64, hD2]; omega
      obtain ⟨d, hd⟩ : ∃ d, d = D2 % 4294967296 := ⟨_, rfl⟩
      have hdi : (D2 : Int) % 4294967296 = (d : Int) := by rw [hd]; rfl
      obtain ⟨c', hc'⟩ : ∃ c', c' = D2 / 9223372036854775808 := ⟨_, rfl⟩
      have hci : (D2 : Int) / 9223372036854775808 = (c' : Int) := by rw [hc']; rfl
      have hds : d < 4294967296 := by omega
      have hfin : c' ≤ 1 ∧ d + S % 4294967296 + C = y + 4294967296 * c' := by rw [← hsl]; omega
      have hst := hK.out.step hG hx hxs hy hfin.1 hds (by rw [← hP, ← hS]; exact hfin.2)
      rw [← hP, ← hS, ← hsh] at hst
      have HST := Lib.hid hst
      clear hx hy hcx hP hS hsl hsh hD1 hD2 hd hc' hfin hst
      go_wp2_with fail
      go_roundw
      case rel => exact ⟨c', sh, I + 1, _, rfl, rfl, by go_num, by omega, HST.out, hA.set_ _ _, gb_set hg _ _⟩
      case measure => simp [intOf]; omega
    · obtain rfl : I = n := by omega
      go_wp2_with fail
      exact hQ.out M C U' _ _ _ _ _ _ _ _ _ _ _ _ _ _ _ _ _ _ _ _ _ _ _ _ _ _ _ _ _ _ _ _ _ _ _ _ _ _ _ _ hK.out hA hg
open Go.RowKit
noncomputable def addCode : Code := (Tryz.f167.body.bind (findBlock 6)).getD .skip
set_option maxRecDepth 100000 in
set_option maxHeartbeats 1000000 in
theorem add_wp (c0 c1 c2 c3 c4 c5 c6 c7 c8 c11 c12 c14 c15 c16 c18 c19 c20 c21 c22 c23 c24 c25 c26 c27 c28 c29 c30 c31 c32 c33 c34 c35 c36 c37 c38 c39 c40 c41 c42 c43 c44 c45 c46 c47 c48 c49 c50 c51 c52 c53 c54 c55 c56 c57 c58 c59 c60 c61 c62 c63 c64 c65 c66 c67 c68 c69 c70 c71 c72 c73 c74 c75 c76 c77 c78 c79 c80 c81 c82 c83 c84 c85 c86 c87 c88 c89 c90 c91 c92 c93 c94 c95 c96 c97 c98 c99 c100 c101 c102 c103 c104 c105 c106 c107 c108 c109 c110 c111 c112 c113 c114 c115 c116 c117 c118 c119 c120 c121 c122 c123 c124 c125 c126 c127 c128 c129 c130 c131 c132 c133 c134 c135 c136 c137 c138 c139 c140 c141 c142 c143 c144 c145 c146 c147 c148 c149 c150 c151 c152 c153 c154 c155 c156 c157 c158 c159 c160 c161 c162 c163 c164 c165 c166 c167 c168 c169 c170 c171 c172 c173 c174 c175 c176 c177 c178 c179 c180 c181 c182 c183 c184 c185 c186 c187 c188 c189 c190 c191 c192 c193 c194 c195 c196 c197 c198 c199 c200 c201 c202 c203 c204 c205 c206 c207 c208 c211 c212 c213 c214 c215 c216 c217 c218 c219 c220 c221 c222 c223 c224 c225 c226 c227 c228 c229 c230 c231 c232 c233 c234 c235 c236 c237 c238 c239 c240 c241 c242 c243 c244 c245 c246 c247 c248 c249 c250 c251 c252 c253 c254 c255 c256 c257 c258 : Value) (w1 w2 : World) (Q : Exit → Act → World → Prop)
    (gu gv ov cv n k N : Nat) (U lv : List Nat) (hkn : k + n < N + 1) (hN : N ≤ 1073741823)
    (hUl : Hid (U.length = N + 1)) (hUs : Sm U) (hU : Arr w1 gu .u32 243 U) (hB : Below gu w2 w1) (hgv : gv < gu)
    (hgetV : ∀ t, t < n → ∃ y, lv[t]? = some y ∧ y < 4294967296 ∧ w2.cell? ⟨gv, ov + t, none⟩ = some (.int .u32 (y : Int)))
    (hQ : ∀ (c : Nat) (U' : List Nat) (u22 u210 u211 u212 u213 u214 u215 u216 u217 u218 u219 u220 u221 u222 u223 u224 u225 u226 u227 u228 u229 u230 u231 u232 u233 u234 u235 u236 u237 : Value) (wx : World), AddInv U lv k n c U' → Arr wx gu .u32 243 U' → w1.grownBy wx (some gu) →
      Q .normal ⟨#[c0, c1, c2, c3, c4, c5, c6, c7, c8, .slice (some ⟨gv, ov, none⟩) n cv, .slice (some ⟨gu, 0, none⟩) (N + 1) (N + 1), c11, c12, .int .i64 (k : Int), c14, c15, c16, .int .u64 (c : Int), c18, c19, c20, c21, u22, c23, c24, c25, c26, c27, c28, c29, c30, c31, c32, c33, c34, c35, c36, c37, c38, c39, c40, c41, c42, c43, c44, c45, c46, c47, c48, c49, c50, c51, c52, c53, c54, c55, c56, c57, c58, c59, c60, c61, c62, c63, c64, c65, c66, c67, c68, c69, c70, c71, c72, c73, c74, c75, c76, c77, c78, c79, c80, c81, c82, c83, c84, c85, c86, c87, c88, c89, c90, c91, c92, c93, c94, c95, c96, c97, c98, c99, c100, c101, c102, c103, c104, c105, c106, c107, c108, c109, c110, c111, c112, c113, c114, c115, c116, c117, c118, c119, c120, c121, c122, c123, c124, c125, c126, c127, c128, c129, c130, c131, c132, c133, c134, c135, c136, c137, c138, c139, c140, c141, c142, c143, c144, c145, c146, c147, c148, c149, c150, c151, c152, c153, c154, c155, c156, c157, c158, c159, c160, c161, c162, c163, c164, c165, c166, c167, c168, c169, c170, c171, c172, c173, c174, c175, c176, c177, c178, c179, c180, c181, c182, c183, c184, c185, c186, c187, c188, c189, c190, c191, c192, c193, c194, c195, c196, c197, c198, c199, c200, c201, c202, c203, c204, c205, c206, c207, c208, .int .i64 (n : Int), u210, u211, u212, u213, u214, u215, u216, u217, u218, u219, u220, u221, u222, u223, u224, u225, u226, u227, u228, u229, u230, u231, u232, u233, u234, u235, u236, u237, c238, c239, c240, c241, c242, c243, c244, c245, c246, c247, c248, c249, c250, c251, c252, c253, c254, c255, c256, c257, c258], []⟩ wx) :
    Code.wp Tryz.prog addCode Q ⟨#[c0, c1, c2, c3, c4, c5, c6, c7, c8, .slice (some ⟨gv, ov, none⟩) n cv, .slice (some ⟨gu, 0, none⟩) (N + 1) (N + 1), c11, c12, .int .i64 (k : Int), c14, c15, c16, .int .u64 0, c18, c19, c20, c21, c22, c23, c24, c25, c26, c27, c28, c29, c30, c31, c32, c33, c34, c35, c36, c37, c38, c39, c40, c41, c42, c43, c44, c45, c46, c47, c48, c49, c50, c51, c52, c53, c54, c55, c56, c57, c58, c59, c60, c61, c62, c63, c64, c65, c66, c67, c68, c69, c70, c71, c72, c73, c74, c75, c76, c77, c78, c79, c80, c81, c82, c83, c84, c85, c86, c87, c88, c89, c90, c91, c92, c93, c94, c95, c96, c97, c98, c99, c100, c101, c102, c103, c104, c105, c106, c107, c108, c109, c110, c111, c112, c113, c114, c115, c116, c117, c118, c119, c120, c121, c122, c123, c124, c125, c126, c127, c128, c129, c130, c131, c132, c133, c134, c135, c136, c137, c138, c139, c140, c141, c142, c143, c144, c145, c146, c147, c148, c149, c150, c151, c152, c153, c154, c155, c156, c157, c158, c159, c160, c161, c162, c163, c164, c165, c166, c167, c168, c169, c170, c171, c172, c173, c174, c175, c176, c177, c178, c179, c180, c181, c182, c183, c184, c185, c186, c187, c188, c189, c190, c191, c192, c193, c194, c195, c196, c197, c198, c199, c200, c201, c202, c203, c204, c205, c206, c207, c208, .int .i64 (n : Int), .int .i64 0, c211, c212, c213, c214, c215, c216, c217, c218, c219, c220, c221, c222, c223, c224, c225, c226, c227, c228, c229, c230, c231, c232, c233, c234, c235, c236, c237, c238, c239, c240, c241, c242, c243, c244, c245, c246, c247, c248, c249, c250, c251, c252, c253, c254, c255, c256, c257, c258], []⟩ w1 := by
  conv => arg 2; whnf
  have hQ := Lib.hid hQ
  have hgetV := Lib.hid hgetV
  have hB := Lib.hid hB
  go_wp2_with fail
  go_loopw [17, 210] (fun c i wx => ∃ (C I : Nat) (U' : List Nat), c = .int .u64 (C : Int) ∧ i = .int .i64 (I : Int) ∧ I ≤ n ∧ AddInv U lv k I C U' ∧ Arr wx gu .u32 243 U' ∧ w1.grownBy wx (some gu)) (fun _ i _ => n - (intOf i).toNat)
  case atStart => exact ⟨0, 0, U, rfl, rfl, Nat.zero_le _, AddInv.start hUs lv k, hU, gb_refl _ _⟩
  case round =>
    obtain ⟨C, I, U', rfl, rfl, hI, hK, hA, hg⟩ := hrel
    have hK := Lib.hid hK
    by_cases h0 : I < n
    · obtain ⟨x, hx, hxs, hcx⟩ := hgetV.out I h0
      obtain ⟨y, hy⟩ : ∃ y, U'[I + k]? = some y := ⟨_, List.getElem?_eq_getElem (by rw [hK.out.len, hUl.out]; omega)⟩
      have hys : y < 4294967296 := hK.out.sm.get hy
      have hcy : wr.cell? ⟨gu, I + k, none⟩ = some (.int .u32 (y : Int)) := hA.cell hy
      have hfy : wr.frozen? ⟨gu, I + k, none⟩ = false := hA.frozen _
      have hcx' : wr.cell? ⟨gv, ov + I, none⟩ = some (.int .u32 (x : Int)) := (hg.cell ((hB.out.cell (p := ⟨gv, ov + I, none⟩) hgv).trans hcx) (by simp; omega))
      have hC := hK.out.hc
      obtain ⟨S, hS⟩ : ∃ S, S = C + (y + x) := ⟨_, rfl⟩
      have hSi : (C : Int) + ((y : Int) + (x : Int)) = (S : Int) := by rw [hS]; push_cast; rfl
      have hSs : S < 18446744073709551616 := by omega
      obtain ⟨sl, hsl⟩ : ∃ sl, sl = S % 4294967296 := ⟨_, rfl⟩
      have hsli : (S : Int) % 4294967296 = (sl : Int) := by rw [hsl]; rfl
      obtain ⟨sh, hsh⟩ : ∃ sh, sh = S / 4294967296 := ⟨_, rfl⟩
      have hshi : (S : Int) / 4294967296 = (sh : Int) := by rw [hsh]; rfl
      have hst := hK.out.step hx hxs hy
      rw [← hS, ← hsl, ← hsh] at hst
      have HST := Lib.hid hst
      clear hx hy hcx hS hsl hsh hst
      go_wp2_with fail
      go_quiet (fail)
      go_wp2_with fail
      go_roundw
      case rel => exact ⟨sh, I + 1, _, rfl, by go_num, by omega, HST.out, Arr.set_ (Arr.drewN hA _) _ _, gb_set (gb_drewN hg _) _ _⟩
      case measure => simp [intOf]; omega
    · obtain rfl : I = n := by omega
      go_wp2_with fail
      exact hQ.out C U' _ _ _ _ _ _ _ _ _ _ _ _ _ _ _ _ _ _ _ _ _ _ _ _ _ _ _ _ _ _ hK.out hA hg
open Go.RowKit
noncomputable def stepCode : Code := (Tryz.f167.body.bind (findBlock 1)).getD .skip
theorem mul_done {U U' lv : List Nat} {V g j n m c t d : Nat} (h : MulInv U lv g j n m c U') (hv : val (lv.take n) = V) (ht : U'[n + j]? = some t) (hd : d + m + c = t) : val (U'.set (n + j) d) + 4294967296 ^ j * (g * V) = val U := by
  have e1 := val_set d ht
  have e2 := h.value
  rw [hv] at e2
  have e3 : 4294967296 ^ (n + j) * t = 4294967296 ^ (n + j) * d + 4294967296 ^ (n + j) * (m + c) := by rw [← hd, Nat.add_assoc, Nat.mul_add]
  omega
theorem mul_under {U U' lv : List Nat} {V g j n m c t d : Nat} (h : MulInv U lv g j n m c U') (hv : val (lv.take n) = V) (ht : U'[n + j]? = some t) (hd : d + m + c = t + 4294967296) : val (U'.set (n + j) d) + 4294967296 ^ j * (g * V) = val U + 4294967296 ^ (n + j + 1) := by
  have e1 := val_set d ht
  have e2 := h.value
  rw [hv] at e2
  have e3 : 4294967296 ^ (n + j) * (d + (m + c)) = 4294967296 ^ (n + j) * (t + 4294967296) := by rw [← hd, Nat.add_assoc]
  have e4 : 4294967296 ^ (n + j) * (t + 4294967296) = 4294967296 ^ (n + j) * t + 4294967296 ^ (n + j + 1) := by rw [Nat.mul_add, Nat.pow_succ]
  rw [Nat.mul_add] at e3
  omega
theorem below_top {X U : List Nat} {p : Nat} (hX : Sm X) (hs : ∀ t, p ≤ t → X[t]? = U[t]?) (h0 : val (U.drop p) = 0) : val X < 4294967296 ^ p := by
  have e : X.drop p = U.drop p := by
    apply List.ext_getElem?
    intro t
    rw [List.getElem?_drop, List.getElem?_drop]
    exact hs _ (by omega)
  have e1 := val_take_drop X p
  rw [e, h0, Nat.mul_zero, Nat.add_zero] at e1
  have h1 := val_lt (hX.take p)
  rw [List.length_take] at h1
  have h2 : 4294967296 ^ (min p X.length) ≤ 4294967296 ^ p := Nat.pow_le_pow_right (by omega) (Nat.min_le_left _ _)
  omega
theorem add_done {U U1 U2 lv : List Nat} {V g j n c d Rv : Nat} (hv : val (lv.take n) = V) (h0 : val (U.drop (n + j + 1)) = 0) (hRv : Rv = val (U.drop j)) (hjl : j ≤ U.length)
    (h1 : val U1 + 4294967296 ^ j * (g * V) = val U + 4294967296 ^ (n + j + 1)) (hs1 : Sm U1) (hsame : ∀ t, n + j + 1 ≤ t → U1[t]? = U[t]?) (hd : U1[n + j]? = some d)
    (h : AddInv U1 lv j n c U2) (hover : g * V ≤ Rv + V) : Rv < g * V ∧ d + c = 4294967296 ∧ val (U2.set (n + j) 0) + 4294967296 ^ j * ((g - 1) * V) = val U := by
  have hp : 0 < 4294967296 ^ j := Nat.pow_pos (by omega)
  have hUv := val_take_drop U j
  rw [Nat.min_eq_left hjl, ← hRv] at hUv
  have b1 := below_top hs1 hsame h0
  have hlt : Rv < g * V := by
    have : 4294967296 ^ j * Rv < 4294967296 ^ j * (g * V) := by omega
    exact Nat.lt_of_mul_lt_mul_left this
  have hg : 0 < g := by
    rcases Nat.eq_zero_or_pos g with h' | h'
    · subst h'; simp at hlt
    · exact h'
  have e2 := h.value
  rw [hv] at e2
  have hd2 : U2[n + j]? = some d := by rw [h.same _ (Nat.le_refl _)]; exact hd
  have e3 : g * V = (g - 1) * V + V := by
    have : g = g - 1 + 1 := by omega
    rw [this, Nat.add_mul, Nat.one_mul, Nat.add_sub_cancel]
  have e4 : 4294967296 ^ j * (g * V) = 4294967296 ^ j * ((g - 1) * V) + 4294967296 ^ j * V := by rw [e3, Nat.mul_add]
  have e5 : 4294967296 ^ j * ((g - 1) * V) ≤ 4294967296 ^ j * Rv := Nat.mul_le_mul_left _ (by omega)
  have hds := hs1.get hd
  have hc := h.hc
  have hsum : d + c = 4294967296 := by
    rcases Nat.lt_or_ge (d + c) 4294967296 with hh | hh
    · exfalso
      have e6 := val_set (d + c) hd2
      have b2 := below_top (X := U2.set (n + j) (d + c)) (U := U) (p := n + j + 1) (h.sm.set_ hh) (fun t ht => by
        rw [List.getElem?_set_ne (by omega), h.same t (by omega)]; exact hsame t ht) h0
      rw [Nat.mul_add] at e6
      omega
    · omega
  refine ⟨hlt, hsum, ?_⟩
  have e6 := val_set 0 hd2
  have e7 : 4294967296 ^ (n + j) * d + 4294967296 ^ (n + j) * c = 4294967296 ^ (n + j + 1) := by rw [← Nat.mul_add, hsum, Nat.pow_succ]
  omega
set_option maxRecDepth 100000 in
set_option maxHeartbeats 2000000 in
theorem step_wp (c0 c1 c2 c3 c4 c5 c6 c7 c8 c14 c15 c16 c17 c18 c19 c20 c21 c22 c23 c24 c25 c26 c27 c28 c29 c30 c31 c32 c33 c34 c35 c36 c37 c38 c39 c40 c41 c42 c43 c44 c45 c46 c47 c48 c49 c50 c51 c52 c53 c54 c55 c56 c57 c58 c59 c60 c61 c62 c63 c64 c65 c66 c67 c68 c69 c70 c71 c72 c73 c74 c75 c76 c77 c78 c79 c80 c81 c82 c83 c84 c85 c86 c87 c88 c89 c90 c91 c92 c93 c94 c95 c96 c97 c98 c99 c100 c101 c102 c103 c104 c105 c106 c107 c108 c109 c110 c111 c112 c113 c114 c115 c116 c117 c118 c119 c120 c121 c122 c123 c124 c125 c126 c127 c128 c129 c130 c131 c132 c133 c134 c135 c136 c137 c138 c139 c140 c141 c142 c143 c144 c145 c146 c147 c148 c149 c150 c151 c152 c153 c154 c155 c156 c157 c158 c159 c160 c161 c162 c163 c164 c165 c166 c167 c168 c169 c170 c171 c172 c173 c174 c175 c176 c177 c178 c179 c180 c181 c182 c183 c184 c185 c186 c187 c188 c189 c190 c191 c192 c193 c194 c195 c196 c197 c198 c199 c200 c201 c202 c203 c204 c205 c206 c207 c208 c209 c210 c211 c212 c213 c214 c215 c216 c217 c218 c219 c220 c221 c222 c223 c224 c225 c226 c227 c228 c229 c230 c231 c232 c233 c234 c235 c236 c237 c238 c239 c240 c241 c242 c243 c244 c245 c246 c247 c248 c249 c250 c251 c252 c253 c254 c255 c256 c257 c258 : Value) (w1 w2 : World) (Q : Exit → Act → World → Prop)
    (gu gv gq ov cv n k N mq AA V : Nat) (U Qd lv : List Nat) (hl : 2 ≤ n) (hkm : k < mq) (hmq : mq + n = N + 1) (hN : N ≤ 1073741823)
    (hK : Hid (KInv AA V n (N + 1) (k + 1) U Qd)) (hU : Arr w1 gu .u32 243 U) (hQd : Arr w1 gq .u32 243 Qd) (hB : Below gu w2 w1) (hgv : gv < gu) (hgq : gu < gq)
    (hlv : Hid (lv.length = n ∧ Sm lv ∧ val lv = V ∧ V < 4294967296 ^ n)) (htop : Hid (∀ x, lv[n - 1]? = some x → 0 < x))
    (hgetV : Hid (∀ t, t < n → ∃ y, lv[t]? = some y ∧ y < 4294967296 ∧ w2.cell? ⟨gv, ov + t, none⟩ = some (.int .u32 (y : Int))))
    (hQ : ∀ (U' Q' : List Nat) (u14 u15 u16 u17 u18 u19 u20 u21 u22 u77 u78 u79 u80 u81 u82 u83 u84 u85 u86 u87 u88 u89 u90 u91 u92 u93 u94 u95 u96 u97 u98 u99 u100 u101 u102 u103 u104 u105 u106 u107 u108 u109 u110 u111 u112 u113 u114 u115 u116 u117 u118 u119 u120 u121 u122 u123 u124 u125 u126 u127 u128 u129 u130 u131 u132 u133 u134 u135 u136 u137 u138 u139 u140 u141 u142 u143 u144 u145 u146 u147 u148 u149 u150 u151 u152 u153 u154 u155 u156 u157 u158 u159 u160 u161 u162 u163 u164 u165 u166 u167 u168 u169 u170 u171 u172 u173 u174 u175 u176 u177 u178 u179 u180 u181 u182 u183 u184 u185 u186 u187 u188 u189 u190 u191 u192 u193 u194 u195 u196 u197 u198 u199 u200 u201 u202 u203 u204 u205 u206 u207 u208 u209 u210 u211 u212 u213 u214 u215 u216 u217 u218 u219 u220 u221 u222 u223 u224 u225 u226 u227 u228 u229 u230 u231 u232 u233 u234 u235 u236 u237 u238 u239 u240 u241 u242 u243 u244 u245 u246 u247 u248 u249 u250 u251 u252 : Value) (wx : World), KInv AA V n (N + 1) k U' Q' → Arr wx gu .u32 243 U' → Arr wx gq .u32 243 Q' → Below gu w2 wx →
      Q .normal ⟨#[c0, c1, c2, c3, c4, c5, c6, c7, c8, .slice (some ⟨gv, ov, none⟩) n cv, .slice (some ⟨gu, 0, none⟩) (N + 1) (N + 1), .int .i64 (n : Int), .slice (some ⟨gq, 0, none⟩) mq mq, .int .i64 (k : Int), u14, u15, u16, u17, u18, u19, u20, u21, u22, c23, c24, c25, c26, c27, c28, c29, c30, c31, c32, c33, c34, c35, c36, c37, c38, c39, c40, c41, c42, c43, c44, c45, c46, c47, c48, c49, c50, c51, c52, c53, c54, c55, c56, c57, c58, c59, c60, c61, c62, c63, c64, c65, c66, c67, c68, c69, c70, c71, c72, c73, c74, c75, c76, u77, u78, u79, u80, u81, u82, u83, u84, u85, u86, u87, u88, u89, u90, u91, u92, u93, u94, u95, u96, u97, u98, u99, u100, u101, u102, u103, u104, u105, u106, u107, u108, u109, u110, u111, u112, u113, u114, u115, u116, u117, u118, u119, u120, u121, u122, u123, u124, u125, u126, u127, u128, u129, u130, u131, u132, u133, u134, u135, u136, u137, u138, u139, u140, u141, u142, u143, u144, u145, u146, u147, u148, u149, u150, u151, u152, u153, u154, u155, u156, u157, u158, u159, u160, u161, u162, u163, u164, u165, u166, u167, u168, u169, u170, u171, u172, u173, u174, u175, u176, u177, u178, u179, u180, u181, u182, u183, u184, u185, u186, u187, u188, u189, u190, u191, u192, u193, u194, u195, u196, u197, u198, u199, u200, u201, u202, u203, u204, u205, u206, u207, u208, u209, u210, u211, u212, u213, u214, u215, u216, u217, u218, u219, u220, u221, u222, u223, u224, u225, u226, u227, u228, u229, u230, u231, u232, u233, u234, u235, u236, u237, u238, u239, u240, u241, u242, u243, u244, u245, u246, u247, u248, u249, u250, u251, u252, c253, c254, c255, c256, c257, c258], []⟩ wx) :
    Code.wp Tryz.prog stepCode Q ⟨#[c0, c1, c2, c3, c4, c5, c6, c7, c8, .slice (some ⟨gv, ov, none⟩) n cv, .slice (some ⟨gu, 0, none⟩) (N + 1) (N + 1), .int .i64 (n : Int), .slice (some ⟨gq, 0, none⟩) mq mq, .int .i64 (k : Int), c14, c15, c16, c17, c18, c19, c20, c21, c22, c23, c24, c25, c26, c27, c28, c29, c30, c31, c32, c33, c34, c35, c36, c37, c38, c39, c40, c41, c42, c43, c44, c45, c46, c47, c48, c49, c50, c51, c52, c53, c54, c55, c56, c57, c58, c59, c60, c61, c62, c63, c64, c65, c66, c67, c68, c69, c70, c71, c72, c73, c74, c75, c76, c77, c78, c79, c80, c81, c82, c83, c84, c85, c86, c87, c88, c89, c90, c91, c92, c93, c94, c95, c96, c97, c98, c99, c100, c101, c102, c103, c104, c105, c106, c107, c108, c109, c110, c111, c112, c113, c114, c115, c116, c117, c118, c119, c120, c121, c122, c123, c124, c125, c126, c127, c128, c129, c130, c131, c132, c133, c134, c135, c136, c137, c138, c139, c140, c141, c142, c143, c144, c145, c146, c147, c148, c149, c150, c151, c152, c153, c154, c155, c156, c157, c158, c159, c160, c161, c162, c163, c164, c165, c166, c167, c168, c169, c170, c171, c172, c173, c174, c175, c176, c177, c178, c179, c180, c181, c182, c183, c184, c185, c186, c187, c188, c189, c190, c191, c192, c193, c194, c195, c196, c197, c198, c199, c200, c201, c202, c203, c204, c205, c206, c207, c208, c209, c210, c211, c212, c213, c214, c215, c216, c217, c218, c219, c220, c221, c222, c223, c224, c225, c226, c227, c228, c229, c230, c231, c232, c233, c234, c235, c236, c237, c238, c239, c240, c241, c242, c243, c244, c245, c246, c247, c248, c249, c250, c251, c252, c253, c254, c255, c256, c257, c258], []⟩ w1 := by
  conv => arg 2; whnf
  have hQ := Lib.hid hQ
  obtain ⟨hlvl, hlvs, hlvv, hV⟩ := hlv.out
  have hUl := hK.out.lu
  have hgetU : ∀ t, t < N + 1 → ∃ y, U[t]? = some y ∧ y < 4294967296 ∧ w1.cell? ⟨gu, t, none⟩ = some (.int .u32 (y : Int)) := fun t ht => by
    have e : U[t]? = some (U[t]'(by omega)) := List.getElem?_eq_getElem _
    exact ⟨_, e, hK.out.su.get e, hU.cell e⟩
  obtain ⟨u0, hu0, hu0s, hcu0⟩ := hgetU (k + n) (by omega)
  obtain ⟨u1, hu1, hu1s, hcu1⟩ := hgetU (k + n - 1) (by omega)
  obtain ⟨u2, hu2, hu2s, hcu2⟩ := hgetU (k + n - 2) (by omega)
  obtain ⟨v1, hv1e, hv1s, hcv1'⟩ := hgetV.out (n - 1) (by omega)
  obtain ⟨v2, hv2e, hv2s, hcv2'⟩ := hgetV.out (n - 2) (by omega)
  have hcv1 := (hB.cell (p := ⟨gv, ov + (n - 1), none⟩) hgv).trans hcv1'
  have hcv2 := (hB.cell (p := ⟨gv, ov + (n - 2), none⟩) hgv).trans hcv2'
  have hv1p : 0 < v1 := htop.out v1 hv1e
  obtain ⟨T, hT⟩ : ∃ T, T = u0 * 4294967296 + u1 := ⟨_, rfl⟩
  have hor1 : bits .or .u64 ((u0 : Int) * 4294967296) (u1 : Int) = (T : Int) := by rw [hT]; exact or64_hi u0 u1 hu0s hu1s
  obtain ⟨g0, hg0⟩ : ∃ g0, g0 = T / v1 := ⟨_, rfl⟩
  obtain ⟨r0, hr0⟩ : ∃ r0, r0 = T % v1 := ⟨_, rfl⟩
  have e1 : (T : Int).tdiv (v1 : Int) = (g0 : Int) := by rw [hg0]; exact tdiv_nat _ _
  have e2 : (T : Int).tmod (v1 : Int) = (r0 : Int) := by rw [hr0]; exact tmod_nat _ _
  have e3 : (T : Int) / (v1 : Int) = (g0 : Int) := by rw [hg0]; rfl
  have e4 : (T : Int) % (v1 : Int) = (r0 : Int) := by rw [hr0]; rfl
  have hT64 : T < 18446744073709551616 := by omega
  have hg064 : g0 < 18446744073709551616 := Nat.lt_of_le_of_lt (by rw [hg0]; exact Nat.div_le_self _ _) hT64
  have hr032 : r0 < 4294967296 := by have := Nat.mod_lt T hv1p; omega
  obtain ⟨Rv, hRv⟩ : ∃ Rv, Rv = val (U.drop k) := ⟨_, rfl⟩
  have hRV : Rv < 4294967296 * V := by
    rw [hRv, val_drop_cons (x := U[k]'(by omega)) (List.getElem?_eq_getElem _)]
    have h1 := hK.out.small
    have h2 : U[k]'(by omega) < 4294967296 := hK.out.su.get (List.getElem?_eq_getElem _)
    have h3 : 4294967296 * (val (U.drop (k + 1)) + 1) ≤ 4294967296 * V := Nat.mul_le_mul_left _ h1
    omega
  obtain ⟨lu, hlu, hRe⟩ := window hK.out.su (V := V) (n := n) hV hl hK.out.small hu0 hu1 hu2
  obtain ⟨lv', hlv', hVd⟩ := divisor hlvs hl hlvl hv1e hv2e
  rw [hlvv] at hVd
  rw [← hRv] at hRe
  have hu0v : u0 ≤ v1 := kn_top hVd hv2s hlv' hRe hRV (by omega)
  have hstart : Rv < (g0 + 1) * V := kn_start hVd hRe hu2s hlu hv1p (by rw [hg0, hT])
  have H0 : Hid (g0 * v1 + r0 = T) := Lib.hid (by rw [hg0, hr0, Nat.mul_comm]; exact Nat.div_add_mod T v1)
  have hz : Hid (val (U.drop (n + k + 1)) = 0) := Lib.hid (by
    have e := val_drop (hK.out.su.drop (k + 1)) n
    rw [List.drop_drop, Nat.div_eq_of_lt (Nat.lt_trans hK.out.small hV)] at e
    rwa [show k + 1 + n = n + k + 1 by omega] at e)
  have hlvt : Hid (val (lv.take n) = V) := Lib.hid (by rw [← hlvl, List.take_length]; exact hlvv)
  have hqn : k < Qd.length := by have := hK.out.lq; omega
  have HT := Lib.hid hT
  have HRe := Lib.hid hRe
  have HVd := Lib.hid hVd
  have HRV := Lib.hid hRV
  have Hst := Lib.hid hstart
  have HRv := Lib.hid hRv
  have Hu0 := Lib.hid hu0
  have hUl := Lib.hid hUl
  have hgetU := Lib.hid hgetU
  clear hT hg0 hr0 hRe hVd hRV hstart hRv hu0 hu1 hu2 hv1e hv2e hcv1' hcv2' hlvl hlvs hlvv
  go_wp2_with fail
  go_quiet (fail)
  go_wp2_with fail
  go_quiet (fail)
  go_upto_block 2 with fail
  refine corr_wp _ _ _ _ _ _ _ _ _ _ _ _ _ _ _ _ _ _ _ _ _ _ _ _ _ _ _ _ _ _ _ _ _ _ _ _ _ _ _ _ _ _ _ _ _ _ _ _ _ _ _ _ _ _ _ _ _ _ _ _ _ _ _ _ _ _ _ _ _ _ _ _ _ _ _ _ _ _ _ _ _ _ _ _ _ _ _ _ _ _ _ _ _ _ _ _ _ _ _ _ _ _ _ _ _ _ _ _ _ _ _ _ _ _ _ _ _ _ _ _ _ _ _ _ _ _ _ _ _ _ _ _ _ _ _ _ _ _ _ _ _ _ _ _ _ _ _ _ _ _ _ _ _ _ _ _ _ _ _ _ _ _ _ _ _ _ _ _ _ _ _ _ _ _ _ _ _ _ _ _ _ _ _ _ _ _ _ _ _ _ _ _ _ _ _ _ _ _ _ _ _ _ _ _ _ _ _ _ _ _ _ _ _ _ _ _ _ _ _ _ _ _ _ _ _ _ _ _ _ _ _ _ _ _ _ _ _ _ _ _ _ _ _ _ _ _ _ _ _ _ _ _ _ _ gu gv ov cv n k N g0 r0 u0 u1 u2 v1 v2 T V Rv _ lv' lu hl (by omega) hN hu1s hu2s hv2s hv1s hv1p hcu2 hcv1 hcv2 HT hg064 hr032 H0 Hst hu0v hlu hlv' HRe HVd HRV ?_
  intro G x16 x110 x111 x112 x113 x114 x115 x116 x117 x118 x119 x120 x121 x122 x123 x124 x125 x126 x127 x128 x129 x130 x131 x132 x133 x134 x135 x136 x137 x138 x139 x140 x141 x142 x143 x144 x145 x146 x147 wx hG hGlt hGov hdr
  have hUx := Arr.dr hdr (Arr.drewN (Arr.drewN hU _) _)
  have hQx := Arr.dr hdr (Arr.drewN (Arr.drewN hQd _) _)
  have hBx := below_dr hdr (below_drewN (below_drewN hB _) _)
  clear hdr hU hQd hB hcu0 hcu1 hcu2 hcv1 hcv2 hgetU
  have HGlt := Lib.hid hGlt
  have HGov := Lib.hid hGov
  clear hGlt hGov
  go_upto_block 4 with fail
  refine mul_wp _ _ _ _ _ _ _ _ _ _ _ _ _ _ _ _ _ _ _ _ _ _ _ _ _ _ _ _ _ _ _ _ _ _ _ _ _ _ _ _ _ _ _ _ _ _ _ _ _ _ _ _ _ _ _ _ _ _ _ _ _ _ _ _ _ _ _ _ _ _ _ _ _ _ _ _ _ _ _ _ _ _ _ _ _ _ _ _ _ _ _ _ _ _ _ _ _ _ _ _ _ _ _ _ _ _ _ _ _ _ _ _ _ _ _ _ _ _ _ _ _ _ _ _ _ _ _ _ _ _ _ _ _ _ _ _ _ _ _ _ _ _ _ _ _ _ _ _ _ _ _ _ _ _ _ _ _ _ _ _ _ _ _ _ _ _ _ _ _ _ _ _ _ _ _ _ _ _ _ _ _ _ _ _ _ _ _ _ _ _ _ _ _ _ _ _ _ _ _ _ _ _ _ _ _ _ _ _ _ _ _ _ _ _ _ _ _ _ _ _ _ _ _ _ _ _ _ _ _ _ _ _ _ _ _ _ _ _ _ _ _ _ _ _ _ _ _ _ _ _ _ _ w2 _ gu gv ov cv n k N G U lv (by omega) hN hG hUl hK.out.su hUx hBx hgv hgetV.out ?_
  intro m c U' y19 y20 y149 y150 y151 y152 y153 y154 y155 y156 y157 y158 y159 y160 y161 y162 y163 y164 y165 y166 y167 y168 y169 y170 y171 y172 y173 y174 y175 y176 y177 y178 y179 y180 y181 y182 y183 y184 y185 wy hM hU' hg
  have hM := Lib.hid hM
  have hQd' : Arr wy gq .u32 243 Qd := hQx.grown hg (fun e => by injection e; omega)
  have hB' : Below gu w2 wy := hBx.trans (gb_below hg (Nat.le_refl _) (Nat.le_of_lt hUx.lt))
  obtain ⟨t, ht⟩ : ∃ t, U'[n + k]? = some t := ⟨_, List.getElem?_eq_getElem (by rw [hM.out.len, hUl.out]; omega)⟩
  have hts : t < 4294967296 := hM.out.sm.get ht
  have hct : wy.cell? ⟨gu, k + n, none⟩ = some (.int .u32 (t : Int)) := hU'.cell (by rw [Nat.add_comm k n]; exact ht)
  have hft : wy.frozen? ⟨gu, k + n, none⟩ = false := hU'.frozen _
  have hm := hM.out.hm
  have hc := hM.out.hc
  obtain ⟨D1, hD1⟩ : ∃ D1, D1 = (t + 18446744073709551616 - m) % 18446744073709551616 := ⟨_, rfl⟩
  have hD1i : IntKind.u64.wrap ((t : Int) - (m : Int)) = (D1 : Int) := by rw [IntKind.wrap_u64, hD1]; omega
  obtain ⟨D2, hD2⟩ : ∃ D2, D2 = (D1 + 18446744073709551616 - c) % 18446744073709551616 := ⟨_, rfl⟩
  have hD2i : IntKind.u64.wrap ((D1 : Int) - (c : Int)) = (D2 : Int) := by rw [IntKind.wrap_u64, hD2]; omega
  obtain ⟨d, hd⟩ : ∃ d, d = D2 % 4294967296 := ⟨_, rfl⟩
  have hdi : (D2 : Int) % 4294967296 = (d : Int) := by rw [hd]; rfl
  have hds : d < 4294967296 := by omega
  have Hsame : Hid (∀ j, n + k + 1 ≤ j → (U'.set (n + k) d)[j]? = U[j]?) := Lib.hid fun j hj => by
    rw [List.getElem?_set_ne (by omega)]
    exact hM.out.same j (by omega)
  have hU1 : Arr (wy.setCell ⟨gu, k + n, none⟩ (.int .u32 (d : Int))) gu .u32 243 (U'.set (n + k) d) := by
    have := hU'.set_ (k + n) d
    rwa [Nat.add_comm k n] at this ⊢
  by_cases hneg : D2 < 9223372036854775808
  · have t1 : ((D2 : Int) / 9223372036854775808 != 0) = false := by rw [show (D2 : Int) / 9223372036854775808 = 0 by omega]; rfl
    have hval := mul_done hM.out hlvt.out ht (show d + m + c = t by omega)
    have HK2 : Hid (KInv AA V n (N + 1) k (U'.set (n + k) d) (Qd.set k G)) := Lib.hid (hK.out.step (by omega) hG (by rw [List.length_set]; exact hM.out.len) (hM.out.sm.set_ hds) hval (by
      refine take_of_same fun j hj => ?_
      rw [List.getElem?_set_ne (by omega)]
      exact hM.out.low j hj) (by rw [← HRv.out]; exact HGlt.out))
    have hQ2 : Arr (wy.setCell ⟨gu, k + n, none⟩ (.int .u32 (d : Int))) gq .u32 243 Qd := hQd'.far (by simp; omega) _
    obtain ⟨q0, hq0⟩ : ∃ q0, Qd[k]? = some q0 := ⟨_, List.getElem?_eq_getElem hqn⟩
    have hcq : wy.cell? ⟨gq, k, none⟩ = some (.int .u32 (q0 : Int)) := hQd'.cell hq0
    have hfq : wy.frozen? ⟨gq, k, none⟩ = false := hQd'.frozen _
    have hne : gq ≠ gu := by omega
    clear hD1 hD2 hd ht hq0 hval
    go_wp2_with fail
    have hB2 := (hB'.setCell (p := ⟨gu, k + n, none⟩) (Nat.le_refl _) (.int .u32 (d : Int))).setCell (p := ⟨gq, k, none⟩) (Nat.le_of_lt hgq) (.int .u32 (G : Int))
    exact hQ.out (U'.set (n + k) d) (Qd.set k G) _ _ _ _ _ _ _ _ _ _ _ _ _ _ _ _ _ _ _ _ _ _ _ _ _ _ _ _ _ _ _ _ _ _ _ _ _ _ _ _ _ _ _ _ _ _ _ _ _ _ _ _ _ _ _ _ _ _ _ _ _ _ _ _ _ _ _ _ _ _ _ _ _ _ _ _ _ _ _ _ _ _ _ _ _ _ _ _ _ _ _ _ _ _ _ _ _ _ _ _ _ _ _ _ _ _ _ _ _ _ _ _ _ _ _ _ _ _ _ _ _ _ _ _ _ _ _ _ _ _ _ _ _ _ _ _ _ _ _ _ _ _ _ _ _ _ _ _ _ _ _ _ _ _ _ _ _ _ _ _ _ _ _ _ _ _ _ _ _ _ _ _ _ _ _ _ _ _ _ _ _ _ _ _ _ _ HK2.out (hU1.far (by simp; omega) _) (hQ2.set_ k G) hB2
  · have t1 : ((D2 : Int) / 9223372036854775808 != 0) = true := by rw [bne_iff_ne]; omega
    have hval := mul_under hM.out hlvt.out ht (show d + m + c = t + 4294967296 by omega)
    have hQ2 : Arr (wy.setCell ⟨gu, k + n, none⟩ (.int .u32 (d : Int))) gq .u32 243 Qd := hQd'.far (by simp; omega) _
    have hB2 : Below gu w2 (wy.setCell ⟨gu, k + n, none⟩ (.int .u32 (d : Int))) := hB'.setCell (p := ⟨gu, k + n, none⟩) (Nat.le_refl _) _
    have hval := Lib.hid hval
    have HD : Hid ((U'.set (n + k) d)[n + k]? = some d) := Lib.hid (by rw [List.getElem?_set_self (lt_of_getElem? ht)])
    have hs1 : Sm (U'.set (n + k) d) := hM.out.sm.set_ hds
    have hl1 : Hid ((U'.set (n + k) d).length = N + 1) := Lib.hid (by rw [List.length_set, hM.out.len, hUl.out])
    have hG1 : (1 : Int) ≤ (G : Int) := by
      have h1 := hval.out
      rcases Nat.eq_zero_or_pos G with h0 | h0
      · exfalso
        subst h0
        have h2 := below_top hs1 Hsame.out hz.out
        rw [Nat.zero_mul, Nat.mul_zero, Nat.add_zero] at h1
        omega
      · omega
    clear hD1 hD2 hd ht
    go_upto_block 6 with fail
    refine add_wp _ _ _ _ _ _ _ _ _ _ _ _ _ _ _ _ _ _ _ _ _ _ _ _ _ _ _ _ _ _ _ _ _ _ _ _ _ _ _ _ _ _ _ _ _ _ _ _ _ _ _ _ _ _ _ _ _ _ _ _ _ _ _ _ _ _ _ _ _ _ _ _ _ _ _ _ _ _ _ _ _ _ _ _ _ _ _ _ _ _ _ _ _ _ _ _ _ _ _ _ _ _ _ _ _ _ _ _ _ _ _ _ _ _ _ _ _ _ _ _ _ _ _ _ _ _ _ _ _ _ _ _ _ _ _ _ _ _ _ _ _ _ _ _ _ _ _ _ _ _ _ _ _ _ _ _ _ _ _ _ _ _ _ _ _ _ _ _ _ _ _ _ _ _ _ _ _ _ _ _ _ _ _ _ _ _ _ _ _ _ _ _ _ _ _ _ _ _ _ _ _ _ _ _ _ _ _ _ _ _ _ _ _ _ _ _ _ _ _ _ _ _ _ _ _ _ _ _ _ _ _ _ _ _ _ _ _ _ _ _ _ _ _ _ _ _ _ _ _ _ _ _ _ _ w2 _ gu gv ov cv n k N _ lv (by omega) hN hl1 hs1 hU1 hB2 hgv hgetV.out ?_
    intro c2 U2 z22 z210 z211 z212 z213 z214 z215 z216 z217 z218 z219 z220 z221 z222 z223 z224 z225 z226 z227 z228 z229 z230 z231 z232 z233 z234 z235 z236 z237 wz hA2 hU2 hg2
    have hfin := add_done hlvt.out hz.out HRv.out (by rw [hUl.out]; omega) hval.out hs1 Hsame.out HD.out hA2 HGov.out
    have hc2 := hA2.hc
    have hd2 : U2[n + k]? = some d := by rw [hA2.same _ (Nat.le_refl _)]; exact HD.out
    have hcd : wz.cell? ⟨gu, k + n, none⟩ = some (.int .u32 (d : Int)) := hU2.cell (by rw [Nat.add_comm k n]; exact hd2)
    have hfd : wz.frozen? ⟨gu, k + n, none⟩ = false := hU2.frozen _
    have hQ3 : Arr wz gq .u32 243 Qd := hQ2.grown hg2 (fun e => by injection e; omega)
    have hB3 : Below gu w2 wz := hB2.trans (gb_below hg2 (Nat.le_refl _) (Nat.le_of_lt hU1.lt))
    have hwr : IntKind.u32.wrap ((d : Int) + (c2 : Int)) = 0 := by rw [IntKind.wrap_u32]; have := hfin.2.1; omega
    have HK2 : Hid (KInv AA V n (N + 1) k (U2.set (n + k) 0) (Qd.set k (G - 1))) := Lib.hid (hK.out.step (by omega) (by omega) (by rw [List.length_set, hA2.len, List.length_set]; exact hM.out.len) (hA2.sm.set_ (by omega)) hfin.2.2 (by
      refine take_of_same fun j hj => ?_
      rw [List.getElem?_set_ne (by omega), hA2.low j hj, List.getElem?_set_ne (by omega)]
      exact hM.out.low j hj) (by rw [← HRv.out, show G - 1 + 1 = G by omega]; exact hfin.1))
    have hU3 : Arr (wz.setCell ⟨gu, k + n, none⟩ (.int .u32 ((0 : Nat) : Int))) gu .u32 243 (U2.set (n + k) 0) := by
      have := hU2.set_ (k + n) 0
      rwa [Nat.add_comm k n] at this ⊢
    have hQ4 : Arr (wz.setCell ⟨gu, k + n, none⟩ (.int .u32 ((0 : Nat) : Int))) gq .u32 243 Qd := hQ3.far (by simp; omega) _
    obtain ⟨q0, hq0⟩ : ∃ q0, Qd[k]? = some q0 := ⟨_, List.getElem?_eq_getElem hqn⟩
    have hcq : wz.cell? ⟨gq, k, none⟩ = some (.int .u32 (q0 : Int)) := hQ3.cell hq0
    have hfq : wz.frozen? ⟨gq, k, none⟩ = false := hQ3.frozen _
    have hne : gq ≠ gu := by omega
    have hU3 := Lib.hid hU3
    have hQ4 := Lib.hid hQ4
    have hA2 := Lib.hid hA2
    clear hfin hd2 hq0
    go_wp2_with fail
    rw [show (G : Int) - 1 = ((G - 1 : Nat) : Int) by omega]
    have hB4 := (hB3.setCell (p := ⟨gu, k + n, none⟩) (Nat.le_refl _) (.int .u32 0)).setCell (p := ⟨gq, k, none⟩) (Nat.le_of_lt hgq) (.int .u32 ((G - 1 : Nat) : Int))
    exact hQ.out (U2.set (n + k) 0) (Qd.set k (G - 1)) _ _ _ _ _ _ _ _ _ _ _ _ _ _ _ _ _ _ _ _ _ _ _ _ _ _ _ _ _ _ _ _ _ _ _ _ _ _ _ _ _ _ _ _ _ _ _ _ _ _ _ _ _ _ _ _ _ _ _ _ _ _ _ _ _ _ _ _ _ _ _ _ _ _ _ _ _ _ _ _ _ _ _ _ _ _ _ _ _ _ _ _ _ _ _ _ _ _ _ _ _ _ _ _ _ _ _ _ _ _ _ _ _ _ _ _ _ _ _ _ _ _ _ _ _ _ _ _ _ _ _ _ _ _ _ _ _ _ _ _ _ _ _ _ _ _ _ _ _ _ _ _ _ _ _ _ _ _ _ _ _ _ _ _ _ _ _ _ _ _ _ _ _ _ _ _ _ _ _ _ _ _ _ _ _ _ HK2.out (hU3.out.far (by simp; omega) _) (hQ4.out.set_ k (G - 1)) hB4
open Go.RowKit
theorem len_u32 : (Tryz.prog.info? 243).map (·.size) = some 1 := by kernel_rfl
theorem val_zeros (l : List Nat) (m : Nat) : val (l ++ List.replicate m 0) = val l := by rw [val_append, val_replicate]; simp
set_option maxRecDepth 100000 in
set_option maxHeartbeats 4000000 in
theorem over_long (va vb : Value) (a b : Nat) (w : World) (ha : Dg w va a) (hb : Dg w vb b) (h : b ≤ a) (hl : 2 ≤ (dg b).length) (hlen : (dg a).length ≤ 1073741823) :
    Calls Tryz.prog 167 #[va, vb] w (RetOver a b w) := by
  have hc : ¬ cmpI a b < 0 := by
    rcases Nat.lt_or_ge b a with h' | h'
    · rw [cmpI_gt h']; decide
    · rw [cmpI_eq (by omega)]; decide
  have hne : dg b ≠ [] := fun e => by rw [e] at hl; simp at hl
  have hne' : dg a ≠ [] := fun e => by have := dg_len_mono h; rw [e] at this; simp at this; rw [this] at hl; simp at hl
  obtain ⟨gb, ob, cb, Lb, rfl, hb1, hb2, hB, hLb⟩ := hb.open_ hne
  obtain ⟨ga, oa, ca, La, rfl, ha1, ha2, hA, hLa⟩ := ha.open_ hne'
  have hab := dg_len_mono h
  obtain ⟨x, hx⟩ : ∃ x, (dg b)[(dg b).length - 1]? = some x := ⟨_, List.getElem?_eq_getElem (by omega)⟩
  have hxs := getElem?_dg hx
  have hx0 : 0 < x := dg_last b x (by rw [List.getLast?_eq_getElem?]; exact hx)
  obtain ⟨s, hs, hsl, hs1, hs2⟩ := norm_spec hxs hx0
  obtain ⟨n, hn⟩ : ∃ n, (dg b).length = n := ⟨_, rfl⟩
  obtain ⟨N, hN⟩ : ∃ N, (dg a).length = N := ⟨_, rfl⟩
  rw [hn] at hx
  obtain ⟨hnl, hV1, hV2⟩ := norm_len hn hx hs1 hs2 (by omega)
  have hcx : w.cell? ⟨gb, ob + (n - 1), none⟩ = some (.int .u32 (x : Int)) := hB.cell (hLb _ _ hx)
  have hln : (dg a).length ≤ 1073741824 := by omega
  have hlnb : (dg b).length ≤ 1073741824 := by omega
  rw [hn] at hl hab hb1 hb hlnb ⊢
  rw [hN] at hlen ha1 ha hab hln ⊢
  have ha := Lib.hid ha
  have hb := Lib.hid hb
  have HN := Lib.hid hN
  have Hn := Lib.hid hn
  have HNL := Lib.hid hnl
  have HV1 := Lib.hid hV1
  have HV2 := Lib.hid hV2
  have HX := Lib.hid hx
  have hsl := Lib.hid hsl
  have hn1 : ((n : Int) == 1) = false := by simp; omega
  have hmk : ∀ w : World, (Instr.makeSlice 149 (.int .i64 ((N : Int) + 1)) (.int .i64 ((N : Int) + 1))).run Tryz.prog w = .ok (.slice (some ⟨w.heap.size, 0, none⟩) (N + 1) (N + 1)) (w.alloc (.cells (ivs .u32 (List.replicate (N + 1) 0)).toArray 243)) := fun w => make_u32 (N + 1) (by omega) w
  clear hx hN hn hnl hLb hLa hV1 hV2 hs1 hs2 h hne hne'
  go_enter Tryz.func167, Tryz.ntmps167
  go_wp2_with fail
  refine (cmp_any _ _ a b _ ha.out hb.out).mono ?_
  rintro e w1 ⟨rfl, n1, rfl⟩
  go_wp2_with fail
  refine (Tryz.bits_LeadingZeros32 (x : Int) _ (by omega) (by omega)).mono ?_
  rintro e w1 ⟨rfl, rfl⟩
  rw [Int.toNat_natCast, hsl.out]
  go_wp2_with fail
  refine (left_any _ b s _ (hb.out.drewN _) (by rw [Hn.out]; exact hlnb) (by omega)).mono ?_
  rintro e w2 ⟨v, rfl, hv, hb2⟩
  have hv := Lib.hid hv
  have hb2 := Lib.hid hb2
  go_wp2_with fail
  have ha2 := (ha.out.drewN n1).below hb2.out
  have ha3 := ha2.alloc (.cells (ivs .u32 (List.replicate (N + 1) 0)).toArray 243)
  have ha3 := Lib.hid ha3
  refine (left_any _ a s _ ha3.out (by rw [HN.out]; exact hln) (by omega)).mono ?_
  rintro e w3 ⟨v3, rfl, hv3, hb3⟩
  have hv3 := Lib.hid hv3
  have hb3 := Lib.hid hb3
  obtain ⟨A3, c3, rfl, h31, h32, h33⟩ := id hv3.out
  obtain ⟨K, hK⟩ : ∃ K, K = (dg (a * 2 ^ s)).length := ⟨_, rfl⟩
  have HK := Lib.hid hK
  rw [← hK] at h31 hv3 ⊢
  have h33 := Lib.hid h33
  clear hK
  -- the row u, and what is copied into it
  have hU3 : Arr w3 w2.heap.size .u32 243 (List.replicate (N + 1) 0) := (Arr.new w2 .u32 243 (List.replicate (N + 1) 0)).below hb3.out (by simp)
  have hap : 0 < a * 2 ^ s := Nat.mul_pos (by
    rcases Nat.eq_zero_or_pos a with h0 | h0
    · exfalso; have := HN.out; rw [h0, dg_zero] at this; simp at this; omega
    · exact h0) (Nat.two_pow_pos s)
  have hKN : K ≤ N + 1 := by
    rw [HK.out]
    refine dg_len_le_of_lt ?_
    have h1 := dg_lt a
    rw [HN.out] at h1
    have h2 : 2 ^ s ≤ 2 ^ 32 := Nat.pow_le_pow_right (by omega) (by omega)
    calc a * 2 ^ s ≤ a * 2 ^ 32 := Nat.mul_le_mul_left _ h2
      _ < 4294967296 ^ N * 2 ^ 32 := Nat.mul_lt_mul_of_pos_right h1 (by omega)
      _ = 4294967296 ^ (N + 1) := (Nat.pow_succ ..).symm
  obtain ⟨w4, hcp, hU4, hg4⟩ := copy_run (P := Tryz.prog) (ty := 3) (dLen := N + 1) (dCap := N + 1) Tryz.underlying149 len_u32 hU3 (by have := hv3.out; rw [HK.out] at this; exact this) (fun e => by rw [dg_nil_iff] at e; omega) (by rw [← HK.out]; exact hKN) (by rw [← HK.out, List.length_replicate]; exact hKN)
  rw [← HK.out] at hcp
  -- the divisor
  obtain ⟨gv, ov, cv, Lv, rfl, hv1, hv2, hV, hLv⟩ := hv.out.open_ (fun e => by have := HNL.out; rw [e] at this; simp at this; omega)
  rw [HNL.out] at hv1 ⊢
  have hgv : gv < w2.heap.size := hV.lt
  have hB2 : Below w.heap.size w w2 := (below_drewN (Below.refl _ w) _).trans hb2.out
  have hB4 : Below w2.heap.size w2 w4 := (((Below.refl _ w2).alloc (Nat.le_refl _) _).trans ((hb3.out).mono (by simp))).grown hg4 (by have := hb3.out.size; simp at this; omega) (fun k hk => by cases hk; exact Nat.le_refl _)
  have hmk2 : ∀ w : World, (Instr.makeSlice 149 (.int .i64 ((N : Int) + 1 - (n : Int))) (.int .i64 ((N : Int) + 1 - (n : Int)))).run Tryz.prog w = .ok (.slice (some ⟨w.heap.size, 0, none⟩) (N + 1 - n) (N + 1 - n)) (w.alloc (.cells (ivs .u32 (List.replicate (N + 1 - n) 0)).toArray 243)) := fun w => by
    have := make_u32 (N + 1 - n) (by omega) w
    rwa [show ((N + 1 - n : Nat) : Int) = (N : Int) + 1 - (n : Int) by omega] at this
  have hU4 := Lib.hid hU4
  have hB4 := Lib.hid hB4
  have hB2 := Lib.hid hB2
  have hV := Lib.hid hV
  have hLv := Lib.hid hLv
  have hU3 := Lib.hid hU3
  clear hg4
  go_wp2_with fail
  have hQ0 := Arr.new w4 .u32 243 (List.replicate (N + 1 - n) 0)
  have hU5 := hU4.out.alloc (.cells (ivs .u32 (List.replicate (N + 1 - n) 0)).toArray 243)
  have hB5 := hB4.out.alloc hB4.out.size (.cells (ivs .u32 (List.replicate (N + 1 - n) 0)).toArray 243)
  have hgq : w2.heap.size < w4.heap.size := hU4.out.lt
  generalize hw5 : w4.alloc (.cells (ivs .u32 (List.replicate (N + 1 - n) 0)).toArray 243) = w5 at hQ0 hU5 hB5 ⊢
  clear hw5
  generalize hgu : w2.heap.size = gu at *
  generalize hgqe : w4.heap.size = gq at *
  have HGU := Lib.hid hgu
  have HGQ := Lib.hid hgqe
  obtain ⟨V, hVe⟩ : ∃ V, V = b * 2 ^ s := ⟨_, rfl⟩
  obtain ⟨AA, hAe⟩ : ∃ AA, AA = a * 2 ^ s := ⟨_, rfl⟩
  have hst : KInv AA V n (N + 1) (N + 1 - n) (dg (a * 2 ^ s) ++ (List.replicate (N + 1) 0).drop (dg (a * 2 ^ s)).length) (List.replicate (N + 1 - n) 0) := {
    lu := by
      have hk := HK.out
      simp only [List.length_append, List.length_drop, List.length_replicate]
      omega
    lq := by simp; omega
    su := (sm_dg _).app ((sm_replicate _).drop _)
    sq := sm_replicate _
    value := by
      rw [List.drop_replicate, val_zeros, val_dg, hAe]
      simp [val]
    small := by
      rw [val_drop ((sm_dg _).app ((sm_replicate _).drop _)), List.drop_replicate, val_zeros, val_dg, Nat.div_lt_iff_lt_mul (Nat.pow_pos (by omega)), hVe]
      have h1 := dg_lt a
      rw [HN.out] at h1
      have h2 : 2 ^ s ≤ 2 ^ 31 := Nat.pow_le_pow_right (by omega) (by omega)
      calc a * 2 ^ s ≤ a * 2 ^ 31 := Nat.mul_le_mul_left _ h2
        _ < 4294967296 ^ N * 2 ^ 31 := Nat.mul_lt_mul_of_pos_right h1 (by omega)
        _ = (2147483648 * 4294967296 ^ (n - 1)) * 4294967296 ^ (N + 1 - n) := by
            rw [Nat.mul_assoc, ← Nat.pow_add, show n - 1 + (N + 1 - n) = N by omega, Nat.mul_comm]
        _ ≤ b * 2 ^ s * 4294967296 ^ (N + 1 - n) := Nat.mul_le_mul_right _ HV1.out }
  have HVe := Lib.hid hVe
  have HAe := Lib.hid hAe
  have hst := Lib.hid hst
  have hmq : N + 1 - n ≤ 1073741824 := by omega
  have hqn : N + 1 - n + n = N + 1 := by omega
  obtain ⟨mq, hmqe⟩ : ∃ mq, mq = N + 1 - n := ⟨_, rfl⟩
  rw [← hmqe] at hmq hqn hQ0 hst ⊢
  have hqn' : mq + n ≤ N + 1 := by omega
  have HQN := Lib.hid hqn
  clear hgu hgqe hVe hAe hmqe hqn hmk hmk2 hcp hcx hc
  have hgvs := Lib.hid hgv
  go_loopw [13] (fun i wr => ∃ (j : Nat) (U Q : List Nat), i = .int .i64 ((j : Int) - 1) ∧ j ≤ mq ∧ KInv AA V n (N + 1) j U Q ∧ Arr wr gu .u32 243 U ∧ Arr wr gq .u32 243 Q ∧ Below gu w2 wr) (fun i _ => (intOf i + 1).toNat)
  case atStart => exact ⟨mq, _, _, rfl, Nat.le_refl _, hst.out, hU5, hQ0, hB5⟩
  case round =>
    obtain ⟨j, U, Q, rfl, hj, hK, hU, hQ, hB⟩ := hrel
    have hK := Lib.hid hK
    by_cases h0 : 0 < j
    · obtain ⟨k, rfl⟩ : ∃ k, j = k + 1 := ⟨j - 1, by omega⟩
      rw [show ((k + 1 : Nat) : Int) - 1 = (k : Int) by omega]
      go_upto_block 1 with fail
      refine step_wp _ _ _ _ _ _ _ _ _ _ _ _ _ _ _ _ _ _ _ _ _ _ _ _ _ _ _ _ _ _ _ _ _ _ _ _ _ _ _ _ _ _ _ _ _ _ _ _ _ _ _ _ _ _ _ _ _ _ _ _ _ _ _ _ _ _ _ _ _ _ _ _ _ _ _ _ _ _ _ _ _ _ _ _ _ _ _ _ _ _ _ _ _ _ _ _ _ _ _ _ _ _ _ _ _ _ _ _ _ _ _ _ _ _ _ _ _ _ _ _ _ _ _ _ _ _ _ _ _ _ _ _ _ _ _ _ _ _ _ _ _ _ _ _ _ _ _ _ _ _ _ _ _ _ _ _ _ _ _ _ _ _ _ _ _ _ _ _ _ _ _ _ _ _ _ _ _ _ _ _ _ _ _ _ _ _ _ _ _ _ _ _ _ _ _ _ _ _ _ _ _ _ _ _ _ _ _ _ _ _ _ _ _ _ _ _ _ _ _ _ _ _ _ _ _ _ _ _ _ _ _ _ _ _ _ _ _ _ _ _ _ _ _ _ _ _ _ _ _ _ _ _ _ _ _ w2 _ gu gv gq ov cv n k N mq AA V U Q (dg (b * 2 ^ s)) hl (by omega) HQN.out (by omega) hK hU hQ hB hgv hgq (Lib.hid ⟨HNL.out, sm_dg _, by rw [val_dg, HVe.out], by rw [HVe.out]; exact HV2.out⟩) (Lib.hid fun y hy => dg_last (b * 2 ^ s) y (by rw [List.getLast?_eq_getElem?, HNL.out]; exact hy)) (Lib.hid fun t ht => ?_) ?_
      · have e : (dg (b * 2 ^ s))[t]? = some ((dg (b * 2 ^ s))[t]'(by rw [HNL.out]; exact ht)) := List.getElem?_eq_getElem _
        exact ⟨_, e, getElem?_dg e, hV.out.cell (hLv.out _ _ e)⟩
      intro U' Q' x14 x15 x16 x17 x18 x19 x20 x21 x22 x77 x78 x79 x80 x81 x82 x83 x84 x85 x86 x87 x88 x89 x90 x91 x92 x93 x94 x95 x96 x97 x98 x99 x100 x101 x102 x103 x104 x105 x106 x107 x108 x109 x110 x111 x112 x113 x114 x115 x116 x117 x118 x119 x120 x121 x122 x123 x124 x125 x126 x127 x128 x129 x130 x131 x132 x133 x134 x135 x136 x137 x138 x139 x140 x141 x142 x143 x144 x145 x146 x147 x148 x149 x150 x151 x152 x153 x154 x155 x156 x157 x158 x159 x160 x161 x162 x163 x164 x165 x166 x167 x168 x169 x170 x171 x172 x173 x174 x175 x176 x177 x178 x179 x180 x181 x182 x183 x184 x185 x186 x187 x188 x189 x190 x191 x192 x193 x194 x195 x196 x197 x198 x199 x200 x201 x202 x203 x204 x205 x206 x207 x208 x209 x210 x211 x212 x213 x214 x215 x216 x217 x218 x219 x220 x221 x222 x223 x224 x225 x226 x227 x228 x229 x230 x231 x232 x233 x234 x235 x236 x237 x238 x239 x240 x241 x242 x243 x244 x245 x246 x247 x248 x249 x250 x251 x252 wx hK' hU' hQ' hB'
      have hK' := Lib.hid hK'
      go_wp2_with fail
      go_roundw
      case rel => exact ⟨k, U', Q', rfl, by omega, hK'.out, hU', hQ', hB'⟩
      case measure => simp [intOf]
    · obtain rfl : j = 0 := by omega
      have hVp : 0 < V := by have := hK.out.small; omega
      have hval := hK.out.value
      have hsm := hK.out.small
      rw [Nat.pow_zero, Nat.one_mul, List.drop_zero] at hval
      rw [List.drop_zero] at hsm
      have hbp : 0 < b := by
        rcases Nat.eq_zero_or_pos b with h0 | h0
        · exfalso; have := HVe.out; rw [h0, Nat.zero_mul] at this; omega
        · exact h0
      have hquo : val Q = a / b := by
        have h1 : val Q = AA / V := by
          rw [← hval, Nat.add_mul_div_left _ _ hVp, Nat.div_eq_of_lt hsm, Nat.zero_add]
        rw [h1, HAe.out, HVe.out, Nat.mul_div_mul_right _ _ (Nat.two_pow_pos s)]
      have hrem : val U / 2 ^ s = a % b := by
        have h1 : val U = AA % V := by
          rw [← hval, Nat.add_mul_mod_self_left, Nat.mod_eq_of_lt hsm]
        rw [h1, HAe.out, HVe.out, Nat.mul_mod_mul_right, Nat.mul_div_cancel _ (Nat.two_pow_pos s)]
      have hRQ : Rd .u32 243 wr (.slice (some ⟨gq, 0, none⟩) mq mq) Q := by
        have hlq : Q.length = mq := by have := hK.out.lq; have := HQN.out; omega
        have := Rd.whole hQ (by rw [hlq]; unfold maxLen; omega)
        rwa [hlq] at this
      have hRU : Rd .u32 243 wr (.slice (some ⟨gu, 0, none⟩) (N + 1) (N + 1)) U := by
        have := Rd.whole hU (by rw [hK.out.lu]; unfold maxLen; omega)
        rwa [hK.out.lu] at this
      have hRQ := Lib.hid hRQ
      have hRU := Lib.hid hRU
      have hquo := Lib.hid hquo
      have hrem := Lib.hid hrem
      clear hval hsm
      go_wp2_with fail
      refine (cut_any _ Q wr hRQ.out hK.out.sq).mono ?_
      rintro e w6 ⟨vq, rfl, hvq, rfl⟩
      have hvq := Lib.hid hvq
      go_wp2_with fail
      refine (cut_any _ U wr hRU.out hK.out.su).mono ?_
      rintro e w6 ⟨vu, rfl, hvu, rfl⟩
      have hvu := Lib.hid hvu
      go_wp2_with fail
      refine (right_any _ (val U) s _ hvu.out ?_ (by omega)).mono ?_
      · have h1 := val_lt hK.out.su
        rw [hK.out.lu] at h1
        have := dg_len_le_of_lt h1
        omega
      rintro e w7 ⟨vr, rfl, hvr, hb7⟩
      have hvr := Lib.hid hvr
      have hb7 := Lib.hid hb7
      go_wp2
      go_ret2
      refine ⟨vq, vr, rfl, ?_, by rw [← hrem.out]; exact hvr.out, ?_⟩
      · rw [← hquo.out]; exact hvq.out.below hb7.out
      · have hs2 := hB2.out.size
        exact (hB2.out.trans (hB.mono (by rw [← HGU.out]; exact hs2))).trans (hb7.out.mono (by have := hB.size; omega))
theorem over_any (va vb : Value) (a b : Nat) (w : World) (ha : Dg w va a) (hb : Dg w vb b) (h0 : 0 < b) (hlen : (dg a).length ≤ 1073741823) :
    Calls Tryz.prog 167 #[va, vb] w (RetOver a b w) := by
  rcases Nat.lt_or_ge a b with h | h
  · exact over_less va vb a b w ha hb h
  · have hl := dg_len_pos h0
    by_cases h1 : (dg b).length = 1
    · exact over_one va vb a b w ha hb h h1 (by omega)
    · exact over_long va vb a b w ha hb h (by omega) hlen
open Go.RowKit
set_option maxHeartbeats 400000 in
theorem common_any (va vb : Value) (a b : Nat) (w : World) (ha : Dg w va a) (hb : Dg w vb b) (hla : (dg a).length ≤ 1073741823) (hlb : (dg b).length ≤ 1073741823) :
    Calls Tryz.prog 163 #[va, vb] w (RetDg (Nat.gcd a b) w) := by
  have ha := Lib.hid ha
  have hb := Lib.hid hb
  go_enter Tryz.func163, Tryz.ntmps163
  go_wp2
  go_loopg [0, 1] b (fun y va vb wr => ∃ x : Nat, Dg wr va x ∧ Dg wr vb y ∧ Nat.gcd x y = Nat.gcd a b ∧ (dg x).length ≤ 1073741823 ∧ (dg y).length ≤ 1073741823 ∧ Below w.heap.size w wr)
  case atStart => exact ⟨a, ha.out, hb.out, rfl, hla, hlb, Below.refl _ _⟩
  case round =>
    obtain ⟨x, hx, hy, hg, hlx, hly, hB⟩ := hrel
    obtain ⟨Ay, cy, rfl, hy1, hy2, hy3⟩ := id hy
    have hy3 := Lib.hid hy3
    have hy := Lib.hid hy
    have hx := Lib.hid hx
    have hg := Lib.hid hg
    have hB := Lib.hid hB
    by_cases h0 : gk = 0
    · subst h0
      simp only [dg_zero, List.length_nil]
      go_wp2
      go_ret
      exact ⟨_, rfl, by have := hx.out; rw [← hg.out, Nat.gcd_zero_right]; exact this, hB.out⟩
    · have hl := dg_len_pos (show 0 < gk by omega)
      have hyo : Dg wr (.slice Ay (dg gk).length cy) gk := hy.out
      have hyo := Lib.hid hyo
      obtain ⟨L, hL⟩ : ∃ L, L = (dg gk).length := ⟨_, rfl⟩
      rw [← hL] at hl hyo hy1 ⊢
      have hlI : (0 : Int) < (L : Int) := by omega
      clear hL hy
      go_wp2_with fail
      refine (over_any _ _ x gk _ hx.out hyo.out (by omega) hlx).mono ?_
      rintro e w1 ⟨q, r, rfl, -, hr, hb1⟩
      have hr := Lib.hid hr
      have hb1 := Lib.hid hb1
      go_wp2_with fail
      go_roundg (x % gk)
      case measure => exact Nat.mod_lt _ (by omega)
      case rel => exact ⟨gk, hyo.out.below hb1.out, hr.out, by rw [← hg.out, Nat.gcd_comm gk, ← Nat.gcd_rec, Nat.gcd_comm], hly, by have := dg_len_mono (Nat.le_of_lt (Nat.mod_lt x (show 0 < gk by omega))); omega, hB.out.trans (hb1.out.mono hB.out.size)⟩
end Go.Proofs.YtoaggmegmgdgbaaGreat
