/- Package wide: over: the correction of a guessed digit (block 2 of its text), over whatever frame. · Package wide: over: g times the divisor is taken away (block 4 of its text), over whatever frame. · Package wide: over: the divisor is added back (block 6 of its text), over whatever frame. -/
import Derived.Test.YtbddlbhanpjdnaaDoorKnuth
namespace Go.Proofs.YtbddlbhanpjdnaaDoor
open Go.RowKit

noncomputable def corrCode : Code := (Tryd.f99.body.bind (findBlock 2)).getD .skip

set_option maxRecDepth 100000 in
set_option maxHeartbeats 1000000 in
theorem corr_wp (c0 c1 c2 c3 c4 c5 c6 c7 c8 c12 c17 c18 c19 c20 c21 c22 c23 c24 c25 c26 c27 c28 c29 c30 c31 c32 c33 c34 c35 c36 c37 c38 c39 c40 c41 c42 c43 c44 c45 c46 c47 c48 c49 c50 c51 c52 c53 c54 c55 c56 c57 c58 c59 c60 c61 c62 c63 c64 c65 c66 c67 c68 c69 c70 c71 c72 c73 c74 c75 c76 c77 c78 c79 c80 c81 c82 c83 c84 c85 c86 c87 c88 c89 c90 c91 c92 c93 c94 c95 c96 c97 c98 c99 c100 c101 c102 c103 c104 c105 c106 c107 c108 c109 c110 c111 c112 c113 c114 c115 c116 c117 c118 c119 c120 c121 c122 c123 c124 c125 c126 c127 c128 c129 c130 c131 c132 c133 c134 c135 c136 c137 c138 c139 c140 c141 c142 c143 c144 c145 c146 c147 c148 c149 c150 c151 c152 c153 c154 c155 c156 c157 c158 c159 c160 c161 c162 c163 c164 c165 c166 c167 c168 c169 c170 c171 c172 c173 c174 c175 c176 c177 c178 c179 c180 c181 c182 c183 c184 c185 c186 c187 c188 c189 c190 c191 c192 c193 c194 c195 c196 c197 c198 c199 c200 c201 c202 c203 c204 c205 c206 c207 c208 c209 c210 c211 c212 c213 c214 c215 c216 c217 c218 c219 c220 c221 c222 c223 c224 c225 c226 c227 c228 c229 c230 c231 c232 c233 c234 c235 c236 c237 c238 c239 c240 c241 c242 c243 c244 c245 c246 c247 c248 c249 c250 c251 c252 c253 c254 c255 c256 c257 c258 : Value) (wr : World) (Q : Exit → Act → World → Prop)
    (gu gv ov cv n k N g0 r0 u0 u1 u2 v1 v2 T V Rv P0 lv lu : Nat) (hl : 2 ≤ n) (hkn : k + n < N + 1) (hN : N ≤ 1073741823)
    (hu1s : u1 < 4294967296) (hu2s : u2 < 4294967296) (hv2s : v2 < 4294967296) (hv1s : v1 < 4294967296) (hv1p : 0 < v1)
    (hcu2 : wr.cell? ⟨gu, k + n - 2, none⟩ = some (.int .u32 (u2 : Int)))
    (hcv1 : wr.cell? ⟨gv, ov + (n - 1), none⟩ = some (.int .u32 (v1 : Int)))
    (hcv2 : wr.cell? ⟨gv, ov + (n - 2), none⟩ = some (.int .u32 (v2 : Int)))
    (HT : Hid (T = u0 * 4294967296 + u1)) (hg0 : g0 < 18446744073709551616) (hr0 : r0 < 4294967296) (H0 : Hid (g0 * v1 + r0 = T)) (Hst : Hid (Rv < (g0 + 1) * V))
    (hu0v : u0 ≤ v1) (hlu : lu < P0) (hlv : lv < P0) (HRe : Hid (Rv = ((u0 * 4294967296 + u1) * 4294967296 + u2) * P0 + lu)) (HVd : Hid (V = (v1 * 4294967296 + v2) * P0 + lv)) (HRV : Hid (Rv < 4294967296 * V))
    (hQ : ∀ (G : Nat) (u16 u110 u111 u112 u113 u114 u115 u116 u117 u118 u119 u120 u121 u122 u123 u124 u125 u126 u127 u128 u129 u130 u131 u132 u133 u134 u135 u136 u137 u138 u139 u140 u141 u142 u143 u144 u145 u146 u147 : Value) (wx : World), G < 4294967296 → Rv < (G + 1) * V → G * V ≤ Rv + V → Dr wr wx →
      Q .normal ⟨#[c0, c1, c2, c3, c4, c5, c6, c7, c8, .slice (some ⟨gv, ov, none⟩) n cv, .slice (some ⟨gu, 0, none⟩) (N + 1) (N + 1), .int .i64 (n : Int), c12, .int .i64 (k : Int), .int .u64 (T : Int), .int .u64 (G : Int), u16, c17, c18, c19, c20, c21, c22, c23, c24, c25, c26, c27, c28, c29, c30, c31, c32, c33, c34, c35, c36, c37, c38, c39, c40, c41, c42, c43, c44, c45, c46, c47, c48, c49, c50, c51, c52, c53, c54, c55, c56, c57, c58, c59, c60, c61, c62, c63, c64, c65, c66, c67, c68, c69, c70, c71, c72, c73, c74, c75, c76, c77, c78, c79, c80, c81, c82, c83, c84, c85, c86, c87, c88, c89, c90, c91, c92, c93, c94, c95, c96, c97, c98, c99, c100, c101, c102, c103, c104, c105, c106, c107, c108, c109, u110, u111, u112, u113, u114, u115, u116, u117, u118, u119, u120, u121, u122, u123, u124, u125, u126, u127, u128, u129, u130, u131, u132, u133, u134, u135, u136, u137, u138, u139, u140, u141, u142, u143, u144, u145, u146, u147, c148, c149, c150, c151, c152, c153, c154, c155, c156, c157, c158, c159, c160, c161, c162, c163, c164, c165, c166, c167, c168, c169, c170, c171, c172, c173, c174, c175, c176, c177, c178, c179, c180, c181, c182, c183, c184, c185, c186, c187, c188, c189, c190, c191, c192, c193, c194, c195, c196, c197, c198, c199, c200, c201, c202, c203, c204, c205, c206, c207, c208, c209, c210, c211, c212, c213, c214, c215, c216, c217, c218, c219, c220, c221, c222, c223, c224, c225, c226, c227, c228, c229, c230, c231, c232, c233, c234, c235, c236, c237, c238, c239, c240, c241, c242, c243, c244, c245, c246, c247, c248, c249, c250, c251, c252, c253, c254, c255, c256, c257, c258], []⟩ wx) :
    Code.wp Tryd.prog corrCode Q ⟨#[c0, c1, c2, c3, c4, c5, c6, c7, c8, .slice (some ⟨gv, ov, none⟩) n cv, .slice (some ⟨gu, 0, none⟩) (N + 1) (N + 1), .int .i64 (n : Int), c12, .int .i64 (k : Int), .int .u64 (T : Int), .int .u64 (g0 : Int), .int .u64 (r0 : Int), c17, c18, c19, c20, c21, c22, c23, c24, c25, c26, c27, c28, c29, c30, c31, c32, c33, c34, c35, c36, c37, c38, c39, c40, c41, c42, c43, c44, c45, c46, c47, c48, c49, c50, c51, c52, c53, c54, c55, c56, c57, c58, c59, c60, c61, c62, c63, c64, c65, c66, c67, c68, c69, c70, c71, c72, c73, c74, c75, c76, c77, c78, c79, c80, c81, c82, c83, c84, c85, c86, c87, c88, c89, c90, c91, c92, c93, c94, c95, c96, c97, c98, c99, c100, c101, c102, c103, c104, c105, c106, c107, c108, c109, c110, c111, c112, c113, c114, c115, c116, c117, c118, c119, c120, c121, c122, c123, c124, c125, c126, c127, c128, c129, c130, c131, c132, c133, c134, c135, c136, c137, c138, c139, c140, c141, c142, c143, c144, c145, c146, c147, c148, c149, c150, c151, c152, c153, c154, c155, c156, c157, c158, c159, c160, c161, c162, c163, c164, c165, c166, c167, c168, c169, c170, c171, c172, c173, c174, c175, c176, c177, c178, c179, c180, c181, c182, c183, c184, c185, c186, c187, c188, c189, c190, c191, c192, c193, c194, c195, c196, c197, c198, c199, c200, c201, c202, c203, c204, c205, c206, c207, c208, c209, c210, c211, c212, c213, c214, c215, c216, c217, c218, c219, c220, c221, c222, c223, c224, c225, c226, c227, c228, c229, c230, c231, c232, c233, c234, c235, c236, c237, c238, c239, c240, c241, c242, c243, c244, c245, c246, c247, c248, c249, c250, c251, c252, c253, c254, c255, c256, c257, c258], []⟩ wr := by
  conv => arg 2; whnf
  have hQ := Lib.hid hQ
  go_wp2_with fail
  go_loopw [15, 16] (fun g r wx => ∃ G R : Nat, g = .int .u64 (G : Int) ∧ r = .int .u64 (R : Int) ∧ G < 18446744073709551616 ∧ R < 4294967296 ∧ G * v1 + R = T ∧ Rv < (G + 1) * V ∧ Dr wr wx) (fun g _ _ => (intOf g).toNat)
  case atStart => exact ⟨g0, r0, rfl, rfl, hg0, hr0, H0.out, Hst.out, Dr.refl _⟩
  case round =>
    obtain ⟨G, R, rfl, rfl, hG, hR, hGR, hGV, m, rfl⟩ := hrel
    have HGR := Lib.hid hGR
    have HGV := Lib.hid hGV
    clear hGR hGV
    by_cases hGB : G < 4294967296
    · have hsh : ((G : Int) / 4294967296) = 0 := by omega
      have t1 : ((G : Int) / 4294967296 != 0) = false := by rw [hsh]; rfl
      obtain ⟨P, hP⟩ : ∃ P, P = G * v2 := ⟨_, rfl⟩
      have hPi : (G : Int) * (v2 : Int) = (P : Int) := by rw [hP]; push_cast; rfl
      have hPs : P ≤ 18446744065119617025 := by rw [hP]; exact Nat.mul_le_mul (show G ≤ 4294967295 by omega) (show v2 ≤ 4294967295 by omega)
      obtain ⟨S, hS⟩ : ∃ S, S = R * 4294967296 + u2 := ⟨_, rfl⟩
      have hSi : bits .or .u64 ((R : Int) * 4294967296) (u2 : Int) = (S : Int) := by rw [hS]; exact or64_hi R u2 hR hu2s
      have HP := Lib.hid hP
      have HS := Lib.hid hS
      clear hP hS
      by_cases htest : S < P
      · have t2 : ((S : Int) < (P : Int)) := by omega
        have hlow : Rv < G * V := kn_under HVd.out HRe.out hlu (by rw [HGR.out, HT.out]) (by rw [← HS.out, ← HP.out]; exact htest)
        have hG0 : 0 < G := by
          rcases Nat.eq_zero_or_pos G with h0 | h0
          · subst h0; simp at hlow
          · exact h0
        have hG1 : (1 : Int) ≤ (G : Int) := by omega
        have HLOW : Hid (Rv < (G - 1 + 1) * V) := Lib.hid (by rw [show G - 1 + 1 = G by omega]; exact hlow)
        have HGR1 : Hid ((G - 1) * v1 + (R + v1) = T) := Lib.hid (by
          rw [← HGR.out]
          obtain ⟨G', rfl⟩ : ∃ G', G = G' + 1 := ⟨G - 1, by omega⟩
          rw [Nat.add_sub_cancel, Nat.add_mul, Nat.one_mul]; omega)
        clear hlow
        by_cases hbr : R + v1 < 4294967296
        · have t3 : (((R : Int) + (v1 : Int)) / 4294967296 != 0) = false := by rw [show ((R : Int) + (v1 : Int)) / 4294967296 = 0 by omega]; rfl
          go_wp2_with fail
          go_quiet (fail)
          go_wp2_with fail
          go_roundw
          case rel => exact ⟨G - 1, R + v1, by go_num, by go_num, by omega, hbr, HGR1.out, HLOW.out, by repeat (first | exact Dr.refl _ | apply Dr.drewN)⟩
          case measure => simp [intOf]; omega
        · have t3 : (((R : Int) + (v1 : Int)) / 4294967296 != 0) = true := by rw [bne_iff_ne]; omega
          have hbrk := kn_break (u2 := u2) hu0v hu1s hv2s (by rw [HGR1.out, HT.out]) (show 4294967296 ≤ R + v1 by omega)
          have hov := kn_over HVd.out HRe.out hlv hv1p (by rw [HGR1.out, HT.out]) hbrk.1 hbrk.2
          have HBR := Lib.hid hbrk
          have HOV := Lib.hid hov
          clear hbrk hov
          go_wp2_with fail
          go_quiet (fail)
          go_wp2_with fail
          rw [show (G : Int) - 1 = ((G - 1 : Nat) : Int) by omega]
          exact hQ.out (G - 1) _ _ _ _ _ _ _ _ _ _ _ _ _ _ _ _ _ _ _ _ _ _ _ _ _ _ _ _ _ _ _ _ _ _ _ _ _ _ _ _ (by omega) HLOW.out HOV.out (by repeat (first | exact Dr.refl _ | apply Dr.drewN))
      · have t2 : ¬ ((S : Int) < (P : Int)) := by omega
        have hov := kn_over HVd.out HRe.out hlv hv1p (by rw [HGR.out, HT.out]) hGB (by rw [← HS.out, ← HP.out]; omega)
        have HOV := Lib.hid hov
        clear hov
        go_wp2_with fail
        go_quiet (fail)
        go_wp2_with fail
        exact hQ.out (G) _ _ _ _ _ _ _ _ _ _ _ _ _ _ _ _ _ _ _ _ _ _ _ _ _ _ _ _ _ _ _ _ _ _ _ _ _ _ _ _ hGB HGV.out HOV.out (by repeat (first | exact Dr.refl _ | apply Dr.drewN))
    · have t1 : ((G : Int) / 4294967296 != 0) = true := by rw [bne_iff_ne]; omega
      have hlow : Rv < G * V := Nat.lt_of_lt_of_le HRV.out (Nat.mul_le_mul_right _ (by omega))
      have hG1 : (1 : Int) ≤ (G : Int) := by omega
      have HLOW : Hid (Rv < (G - 1 + 1) * V) := Lib.hid (by rw [show G - 1 + 1 = G by omega]; exact hlow)
      have HGR1 : Hid ((G - 1) * v1 + (R + v1) = T) := Lib.hid (by
        rw [← HGR.out]
        obtain ⟨G', rfl⟩ : ∃ G', G = G' + 1 := ⟨G - 1, by omega⟩
        rw [Nat.add_sub_cancel, Nat.add_mul, Nat.one_mul]; omega)
      clear hlow
      by_cases hbr : R + v1 < 4294967296
      · have t3 : (((R : Int) + (v1 : Int)) / 4294967296 != 0) = false := by rw [show ((R : Int) + (v1 : Int)) / 4294967296 = 0 by omega]; rfl
        go_wp2_with fail
        go_quiet (fail)
        go_wp2_with fail
        go_roundw
        case rel => exact ⟨G - 1, R + v1, by go_num, by go_num, by omega, hbr, HGR1.out, HLOW.out, by repeat (first | exact Dr.refl _ | apply Dr.drewN)⟩
        case measure => simp [intOf]; omega
      · have t3 : (((R : Int) + (v1 : Int)) / 4294967296 != 0) = true := by rw [bne_iff_ne]; omega
        have hbrk := kn_break (u2 := u2) hu0v hu1s hv2s (by rw [HGR1.out, HT.out]) (show 4294967296 ≤ R + v1 by omega)
        have hov := kn_over HVd.out HRe.out hlv hv1p (by rw [HGR1.out, HT.out]) hbrk.1 hbrk.2
        have HBR := Lib.hid hbrk
        have HOV := Lib.hid hov
        have hGs : G - 1 < 4294967296 := hbrk.1
        clear hbrk hov
        go_wp2_with fail
        go_quiet (fail)
        go_wp2_with fail
        rw [show (G : Int) - 1 = ((G - 1 : Nat) : Int) by omega]
        exact hQ.out (G - 1) _ _ _ _ _ _ _ _ _ _ _ _ _ _ _ _ _ _ _ _ _ _ _ _ _ _ _ _ _ _ _ _ _ _ _ _ _ _ _ _ hGs HLOW.out HOV.out (by repeat (first | exact Dr.refl _ | apply Dr.drewN))
end Go.Proofs.YtbddlbhanpjdnaaDoor

namespace Go.Proofs.YtbddlbhanpjdnaaDoor
open Go.RowKit

noncomputable def mulCode : Code := (Tryd.f99.body.bind (findBlock 4)).getD .skip

set_option maxRecDepth 100000 in
set_option maxHeartbeats 1000000 in
theorem mul_wp (c0 c1 c2 c3 c4 c5 c6 c7 c8 c11 c12 c14 c16 c19 c20 c21 c22 c23 c24 c25 c26 c27 c28 c29 c30 c31 c32 c33 c34 c35 c36 c37 c38 c39 c40 c41 c42 c43 c44 c45 c46 c47 c48 c49 c50 c51 c52 c53 c54 c55 c56 c57 c58 c59 c60 c61 c62 c63 c64 c65 c66 c67 c68 c69 c70 c71 c72 c73 c74 c75 c76 c77 c78 c79 c80 c81 c82 c83 c84 c85 c86 c87 c88 c89 c90 c91 c92 c93 c94 c95 c96 c97 c98 c99 c100 c101 c102 c103 c104 c105 c106 c107 c108 c109 c110 c111 c112 c113 c114 c115 c116 c117 c118 c119 c120 c121 c122 c123 c124 c125 c126 c127 c128 c129 c130 c131 c132 c133 c134 c135 c136 c137 c138 c139 c140 c141 c142 c143 c144 c145 c146 c147 c150 c151 c152 c153 c154 c155 c156 c157 c158 c159 c160 c161 c162 c163 c164 c165 c166 c167 c168 c169 c170 c171 c172 c173 c174 c175 c176 c177 c178 c179 c180 c181 c182 c183 c184 c185 c186 c187 c188 c189 c190 c191 c192 c193 c194 c195 c196 c197 c198 c199 c200 c201 c202 c203 c204 c205 c206 c207 c208 c209 c210 c211 c212 c213 c214 c215 c216 c217 c218 c219 c220 c221 c222 c223 c224 c225 c226 c227 c228 c229 c230 c231 c232 c233 c234 c235 c236 c237 c238 c239 c240 c241 c242 c243 c244 c245 c246 c247 c248 c249 c250 c251 c252 c253 c254 c255 c256 c257 c258 : Value) (w1 w2 : World) (Q : Exit → Act → World → Prop)
    (gu gv ov cv n k N G : Nat) (U lv : List Nat) (hkn : k + n < N + 1) (hN : N ≤ 1073741823) (hG : G < 4294967296)
    (hUl : Hid (U.length = N + 1)) (hUs : Sm U) (hU : Arr w1 gu .u32 135 U) (hB : Below gu w2 w1) (hgv : gv < gu)
    (hgetV : ∀ t, t < n → ∃ y, lv[t]? = some y ∧ y < 4294967296 ∧ w2.cell? ⟨gv, ov + t, none⟩ = some (.int .u32 (y : Int)))
    (hQ : ∀ (m c : Nat) (U' : List Nat) (u19 u20 u149 u150 u151 u152 u153 u154 u155 u156 u157 u158 u159 u160 u161 u162 u163 u164 u165 u166 u167 u168 u169 u170 u171 u172 u173 u174 u175 u176 u177 u178 u179 u180 u181 u182 u183 u184 u185 : Value) (wx : World), MulInv U lv G k n m c U' → Arr wx gu .u32 135 U' → w1.grownBy wx (some gu) →
      Q .normal ⟨#[c0, c1, c2, c3, c4, c5, c6, c7, c8, .slice (some ⟨gv, ov, none⟩) n cv, .slice (some ⟨gu, 0, none⟩) (N + 1) (N + 1), c11, c12, .int .i64 (k : Int), c14, .int .u64 (G : Int), c16, .int .u64 (c : Int), .int .u64 (m : Int), u19, u20, c21, c22, c23, c24, c25, c26, c27, c28, c29, c30, c31, c32, c33, c34, c35, c36, c37, c38, c39, c40, c41, c42, c43, c44, c45, c46, c47, c48, c49, c50, c51, c52, c53, c54, c55, c56, c57, c58, c59, c60, c61, c62, c63, c64, c65, c66, c67, c68, c69, c70, c71, c72, c73, c74, c75, c76, c77, c78, c79, c80, c81, c82, c83, c84, c85, c86, c87, c88, c89, c90, c91, c92, c93, c94, c95, c96, c97, c98, c99, c100, c101, c102, c103, c104, c105, c106, c107, c108, c109, c110, c111, c112, c113, c114, c115, c116, c117, c118, c119, c120, c121, c122, c123, c124, c125, c126, c127, c128, c129, c130, c131, c132, c133, c134, c135, c136, c137, c138, c139, c140, c141, c142, c143, c144, c145, c146, c147, .int .i64 (n : Int), u149, u150, u151, u152, u153, u154, u155, u156, u157, u158, u159, u160, u161, u162, u163, u164, u165, u166, u167, u168, u169, u170, u171, u172, u173, u174, u175, u176, u177, u178, u179, u180, u181, u182, u183, u184, u185, c186, c187, c188, c189, c190, c191, c192, c193, c194, c195, c196, c197, c198, c199, c200, c201, c202, c203, c204, c205, c206, c207, c208, c209, c210, c211, c212, c213, c214, c215, c216, c217, c218, c219, c220, c221, c222, c223, c224, c225, c226, c227, c228, c229, c230, c231, c232, c233, c234, c235, c236, c237, c238, c239, c240, c241, c242, c243, c244, c245, c246, c247, c248, c249, c250, c251, c252, c253, c254, c255, c256, c257, c258], []⟩ wx) :
    Code.wp Tryd.prog mulCode Q ⟨#[c0, c1, c2, c3, c4, c5, c6, c7, c8, .slice (some ⟨gv, ov, none⟩) n cv, .slice (some ⟨gu, 0, none⟩) (N + 1) (N + 1), c11, c12, .int .i64 (k : Int), c14, .int .u64 (G : Int), c16, .int .u64 0, .int .u64 0, c19, c20, c21, c22, c23, c24, c25, c26, c27, c28, c29, c30, c31, c32, c33, c34, c35, c36, c37, c38, c39, c40, c41, c42, c43, c44, c45, c46, c47, c48, c49, c50, c51, c52, c53, c54, c55, c56, c57, c58, c59, c60, c61, c62, c63, c64, c65, c66, c67, c68, c69, c70, c71, c72, c73, c74, c75, c76, c77, c78, c79, c80, c81, c82, c83, c84, c85, c86, c87, c88, c89, c90, c91, c92, c93, c94, c95, c96, c97, c98, c99, c100, c101, c102, c103, c104, c105, c106, c107, c108, c109, c110, c111, c112, c113, c114, c115, c116, c117, c118, c119, c120, c121, c122, c123, c124, c125, c126, c127, c128, c129, c130, c131, c132, c133, c134, c135, c136, c137, c138, c139, c140, c141, c142, c143, c144, c145, c146, c147, .int .i64 (n : Int), .int .i64 0, c150, c151, c152, c153, c154, c155, c156, c157, c158, c159, c160, c161, c162, c163, c164, c165, c166, c167, c168, c169, c170, c171, c172, c173, c174, c175, c176, c177, c178, c179, c180, c181, c182, c183, c184, c185, c186, c187, c188, c189, c190, c191, c192, c193, c194, c195, c196, c197, c198, c199, c200, c201, c202, c203, c204, c205, c206, c207, c208, c209, c210, c211, c212, c213, c214, c215, c216, c217, c218, c219, c220, c221, c222, c223, c224, c225, c226, c227, c228, c229, c230, c231, c232, c233, c234, c235, c236, c237, c238, c239, c240, c241, c242, c243, c244, c245, c246, c247, c248, c249, c250, c251, c252, c253, c254, c255, c256, c257, c258], []⟩ w1 := by
  conv => arg 2; whnf
  have hQ := Lib.hid hQ
  have hgetV := Lib.hid hgetV
  have hB := Lib.hid hB
  go_wp2_with fail
  go_loopw [17, 18, 149] (fun c m i wx => ∃ (C M I : Nat) (U' : List Nat), c = .int .u64 (C : Int) ∧ m = .int .u64 (M : Int) ∧ i = .int .i64 (I : Int) ∧ I ≤ n ∧ MulInv U lv G k I M C U' ∧ Arr wx gu .u32 135 U' ∧ w1.grownBy wx (some gu)) (fun _ _ i _ => n - (intOf i).toNat)
  case atStart => exact ⟨0, 0, 0, U, rfl, rfl, rfl, Nat.zero_le _, MulInv.start hUs lv G k, hU, gb_refl _ _⟩
  case round =>
    obtain ⟨C, M, I, U', rfl, rfl, rfl, hI, hK, hA, hg⟩ := hrel
    have hK := Lib.hid hK
    by_cases h0 : I < n
    · obtain ⟨x, hx, hxs, hcx⟩ := hgetV.out I h0
      obtain ⟨y, hy⟩ : ∃ y, U'[I + k]? = some y := ⟨_, List.getElem?_eq_getElem (by rw [hK.out.len, hUl.out]; omega)⟩
      have hys : y < 4294967296 := hK.out.sm.get hy
      have hcy : wr.cell? ⟨gu, I + k, none⟩ = some (.int .u32 (y : Int)) := hA.cell hy
      have hfy : wr.frozen? ⟨gu, I + k, none⟩ = false := hA.frozen _
      have hcx' : wr.cell? ⟨gv, ov + I, none⟩ = some (.int .u32 (x : Int)) := (hg.cell ((hB.out.cell (p := ⟨gv, ov + I, none⟩) hgv).trans hcx) (by simp; omega))
      have hM := hK.out.hm
      have hC := hK.out.hc
      obtain ⟨P, hP⟩ : ∃ P, P = G * x := ⟨_, rfl⟩
      have hPi : (G : Int) * (x : Int) = (P : Int) := by rw [hP]; push_cast; rfl
      have hPs : P ≤ 18446744065119617025 := by rw [hP]; exact Nat.mul_le_mul (show G ≤ 4294967295 by omega) (show x ≤ 4294967295 by omega)
      obtain ⟨S, hS⟩ : ∃ S, S = M + P := ⟨_, rfl⟩
      have hSi : (M : Int) + (P : Int) = (S : Int) := by rw [hS]; push_cast; rfl
      have hSs : S < 18446744073709551616 := by omega
      obtain ⟨sl, hsl⟩ : ∃ sl, sl = S % 4294967296 := ⟨_, rfl⟩
      have hsli : (S : Int) % 4294967296 = (sl : Int) := by rw [hsl]; rfl
      have hsls : sl < 4294967296 := by omega
      obtain ⟨sh, hsh⟩ : ∃ sh, sh = S / 4294967296 := ⟨_, rfl⟩
      have hshi : (S : Int) / 4294967296 = (sh : Int) := by rw [hsh]; rfl
      obtain ⟨D1, hD1⟩ : ∃ D1, D1 = (y + 18446744073709551616 - sl) % 18446744073709551616 := ⟨_, rfl⟩
      have hD1i : IntKind.u64.wrap ((y : Int) - (sl : Int)) = (D1 : Int) := by rw [IntKind.wrap_u64, hD1]; omega
      obtain ⟨D2, hD2⟩ : ∃ D2, D2 = (D1 + 18446744073709551616 - C) % 18446744073709551616 := ⟨_, rfl⟩
      have hD2i : IntKind.u64.wrap ((D1 : Int) - (C : Int)) = (D2 : Int) := by rw [IntKind.wrap_u64, hD2]; omega
      obtain ⟨d, hd⟩ : ∃ d, d = D2 % 4294967296 := ⟨_, rfl⟩
      have hdi : (D2 : Int) % 4294967296 = (d : Int) := by rw [hd]; rfl
      obtain ⟨c', hc'⟩ : ∃ c', c' = D2 / 9223372036854775808 := ⟨_, rfl⟩
      have hci : (D2 : Int) / 9223372036854775808 = (c' : Int) := by rw [hc']; rfl
      have hds : d < 4294967296 := by omega
      have hfin : c' ≤ 1 ∧ d + S % 4294967296 + C = y + 4294967296 * c' := by rw [← hsl]; omega
      have hst := hK.out.step hG hx hxs hy hfin.1 hds (by rw [← hP, ← hS]; exact hfin.2)
      rw [← hP, ← hS, ← hsh] at hst
      have HST := Lib.hid hst
      clear hx hy hcx hP hS hsl hsh hD1 hD2 hd hc' hfin hst
      go_wp2_with fail
      go_roundw
      case rel => exact ⟨c', sh, I + 1, _, rfl, rfl, by go_num, by omega, HST.out, hA.set_ _ _, gb_set hg _ _⟩
      case measure => simp [intOf]; omega
    · obtain rfl : I = n := by omega
      go_wp2_with fail
      exact hQ.out M C U' _ _ _ _ _ _ _ _ _ _ _ _ _ _ _ _ _ _ _ _ _ _ _ _ _ _ _ _ _ _ _ _ _ _ _ _ _ _ _ _ hK.out hA hg
end Go.Proofs.YtbddlbhanpjdnaaDoor

namespace Go.Proofs.YtbddlbhanpjdnaaDoor
open Go.RowKit

noncomputable def addCode : Code := (Tryd.f99.body.bind (findBlock 6)).getD .skip

set_option maxRecDepth 100000 in
set_option maxHeartbeats 1000000 in
theorem add_wp (c0 c1 c2 c3 c4 c5 c6 c7 c8 c11 c12 c14 c15 c16 c18 c19 c20 c21 c22 c23 c24 c25 c26 c27 c28 c29 c30 c31 c32 c33 c34 c35 c36 c37 c38 c39 c40 c41 c42 c43 c44 c45 c46 c47 c48 c49 c50 c51 c52 c53 c54 c55 c56 c57 c58 c59 c60 c61 c62 c63 c64 c65 c66 c67 c68 c69 c70 c71 c72 c73 c74 c75 c76 c77 c78 c79 c80 c81 c82 c83 c84 c85 c86 c87 c88 c89 c90 c91 c92 c93 c94 c95 c96 c97 c98 c99 c100 c101 c102 c103 c104 c105 c106 c107 c108 c109 c110 c111 c112 c113 c114 c115 c116 c117 c118 c119 c120 c121 c122 c123 c124 c125 c126 c127 c128 c129 c130 c131 c132 c133 c134 c135 c136 c137 c138 c139 c140 c141 c142 c143 c144 c145 c146 c147 c148 c149 c150 c151 c152 c153 c154 c155 c156 c157 c158 c159 c160 c161 c162 c163 c164 c165 c166 c167 c168 c169 c170 c171 c172 c173 c174 c175 c176 c177 c178 c179 c180 c181 c182 c183 c184 c185 c186 c187 c188 c189 c190 c191 c192 c193 c194 c195 c196 c197 c198 c199 c200 c201 c202 c203 c204 c205 c206 c207 c208 c211 c212 c213 c214 c215 c216 c217 c218 c219 c220 c221 c222 c223 c224 c225 c226 c227 c228 c229 c230 c231 c232 c233 c234 c235 c236 c237 c238 c239 c240 c241 c242 c243 c244 c245 c246 c247 c248 c249 c250 c251 c252 c253 c254 c255 c256 c257 c258 : Value) (w1 w2 : World) (Q : Exit → Act → World → Prop)
    (gu gv ov cv n k N : Nat) (U lv : List Nat) (hkn : k + n < N + 1) (hN : N ≤ 1073741823)
    (hUl : Hid (U.length = N + 1)) (hUs : Sm U) (hU : Arr w1 gu .u32 135 U) (hB : Below gu w2 w1) (hgv : gv < gu)
    (hgetV : ∀ t, t < n → ∃ y, lv[t]? = some y ∧ y < 4294967296 ∧ w2.cell? ⟨gv, ov + t, none⟩ = some (.int .u32 (y : Int)))
    (hQ : ∀ (c : Nat) (U' : List Nat) (u22 u210 u211 u212 u213 u214 u215 u216 u217 u218 u219 u220 u221 u222 u223 u224 u225 u226 u227 u228 u229 u230 u231 u232 u233 u234 u235 u236 u237 : Value) (wx : World), AddInv U lv k n c U' → Arr wx gu .u32 135 U' → w1.grownBy wx (some gu) →
      Q .normal ⟨#[c0, c1, c2, c3, c4, c5, c6, c7, c8, .slice (some ⟨gv, ov, none⟩) n cv, .slice (some ⟨gu, 0, none⟩) (N + 1) (N + 1), c11, c12, .int .i64 (k : Int), c14, c15, c16, .int .u64 (c : Int), c18, c19, c20, c21, u22, c23, c24, c25, c26, c27, c28, c29, c30, c31, c32, c33, c34, c35, c36, c37, c38, c39, c40, c41, c42, c43, c44, c45, c46, c47, c48, c49, c50, c51, c52, c53, c54, c55, c56, c57, c58, c59, c60, c61, c62, c63, c64, c65, c66, c67, c68, c69, c70, c71, c72, c73, c74, c75, c76, c77, c78, c79, c80, c81, c82, c83, c84, c85, c86, c87, c88, c89, c90, c91, c92, c93, c94, c95, c96, c97, c98, c99, c100, c101, c102, c103, c104, c105, c106, c107, c108, c109, c110, c111, c112, c113, c114, c115, c116, c117, c118, c119, c120, c121, c122, c123, c124, c125, c126, c127, c128, c129, c130, c131, c132, c133, c134, c135, c136, c137, c138, c139, c140, c141, c142, c143, c144, c145, c146, c147, c148, c149, c150, c151, c152, c153, c154, c155, c156, c157, c158, c159, c160, c161, c162, c163, c164, c165, c166, c167, c168, c169, c170, c171, c172, c173, c174, c175, c176, c177, c178, c179, c180, c181, c182, c183, c184, c185, c186, c187, c188, c189, c190, c191, c192, c193, c194, c195, c196, c197, c198, c199, c200, c201, c202, c203, c204, c205, c206, c207, c208, .int .i64 (n : Int), u210, u211, u212, u213, u214, u215, u216, u217, u218, u219, u220, u221, u222, u223, u224, u225, u226, u227, u228, u229, u230, u231, u232, u233, u234, u235, u236, u237, c238, c239, c240, c241, c242, c243, c244, c245, c246, c247, c248, c249, c250, c251, c252, c253, c254, c255, c256, c257, c258], []⟩ wx) :
    Code.wp Tryd.prog addCode Q ⟨#[c0, c1, c2, c3, c4, c5, c6, c7, c8, .slice (some ⟨gv, ov, none⟩) n cv, .slice (some ⟨gu, 0, none⟩) (N + 1) (N + 1), c11, c12, .int .i64 (k : Int), c14, c15, c16, .int .u64 0, c18, c19, c20, c21, c22, c23, c24, c25, c26, c27, c28, c29, c30, c31, c32, c33, c34, c35, c36, c37, c38, c39, c40, c41, c42, c43, c44, c45, c46, c47, c48, c49, c50, c51, c52, c53, c54, c55, c56, c57, c58, c59, c60, c61, c62, c63, c64, c65, c66, c67, c68, c69, c70, c71, c72, c73, c74, c75, c76, c77, c78, c79, c80, c81, c82, c83, c84, c85, c86, c87, c88, c89, c90, c91, c92, c93, c94, c95, c96, c97, c98, c99, c100, c101, c102, c103, c104, c105, c106, c107, c108, c109, c110, c111, c112, c113, c114, c115, c116, c117, c118, c119, c120, c121, c122, c123, c124, c125, c126, c127, c128, c129, c130, c131, c132, c133, c134, c135, c136, c137, c138, c139, c140, c141, c142, c143, c144, c145, c146, c147, c148, c149, c150, c151, c152, c153, c154, c155, c156, c157, c158, c159, c160, c161, c162, c163, c164, c165, c166, c167, c168, c169, c170, c171, c172, c173, c174, c175, c176, c177, c178, c179, c180, c181, c182, c183, c184, c185, c186, c187, c188, c189, c190, c191, c192, c193, c194, c195, c196, c197, c198, c199, c200, c201, c202, c203, c204, c205, c206, c207, c208, .int .i64 (n : Int), .int .i64 0, c211, c212, c213, c214, c215, c216, c217, c218, c219, c220, c221, c222, c223, c224, c225, c226, c227, c228, c229, c230, c231, c232, c233, c234, c235, c236, c237, c238, c239, c240, c241, c242, c243, c244, c245, c246, c247, c248, c249, c250, c251, c252, c253, c254, c255, c256, c257, c258], []⟩ w1 := by
  conv => arg 2; whnf
  have hQ := Lib.hid hQ
  have hgetV := Lib.hid hgetV
  have hB := Lib.hid hB
  go_wp2_with fail
  go_loopw [17, 210] (fun c i wx => ∃ (C I : Nat) (U' : List Nat), c = .int .u64 (C : Int) ∧ i = .int .i64 (I : Int) ∧ I ≤ n ∧ AddInv U lv k I C U' ∧ Arr wx gu .u32 135 U' ∧ w1.grownBy wx (some gu)) (fun _ i _ => n - (intOf i).toNat)
  case atStart => exact ⟨0, 0, U, rfl, rfl, Nat.zero_le _, AddInv.start hUs lv k, hU, gb_refl _ _⟩
  case round =>
    obtain ⟨C, I, U', rfl, rfl, hI, hK, hA, hg⟩ := hrel
    have hK := Lib.hid hK
    by_cases h0 : I < n
    · obtain ⟨x, hx, hxs, hcx⟩ := hgetV.out I h0
      obtain ⟨y, hy⟩ : ∃ y, U'[I + k]? = some y := ⟨_, List.getElem?_eq_getElem (by rw [hK.out.len, hUl.out]; omega)⟩
      have hys : y < 4294967296 := hK.out.sm.get hy
      have hcy : wr.cell? ⟨gu, I + k, none⟩ = some (.int .u32 (y : Int)) := hA.cell hy
      have hfy : wr.frozen? ⟨gu, I + k, none⟩ = false := hA.frozen _
      have hcx' : wr.cell? ⟨gv, ov + I, none⟩ = some (.int .u32 (x : Int)) := (hg.cell ((hB.out.cell (p := ⟨gv, ov + I, none⟩) hgv).trans hcx) (by simp; omega))
      have hC := hK.out.hc
      obtain ⟨S, hS⟩ : ∃ S, S = C + (y + x) := ⟨_, rfl⟩
      have hSi : (C : Int) + ((y : Int) + (x : Int)) = (S : Int) := by rw [hS]; push_cast; rfl
      have hSs : S < 18446744073709551616 := by omega
      obtain ⟨sl, hsl⟩ : ∃ sl, sl = S % 4294967296 := ⟨_, rfl⟩
      have hsli : (S : Int) % 4294967296 = (sl : Int) := by rw [hsl]; rfl
      obtain ⟨sh, hsh⟩ : ∃ sh, sh = S / 4294967296 := ⟨_, rfl⟩
      have hshi : (S : Int) / 4294967296 = (sh : Int) := by rw [hsh]; rfl
      have hst := hK.out.step hx hxs hy
      rw [← hS, ← hsl, ← hsh] at hst
      have HST := Lib.hid hst
      clear hx hy hcx hS hsl hsh hst
      go_wp2_with fail
      go_quiet (fail)
      go_wp2_with fail
      go_roundw
      case rel => exact ⟨sh, I + 1, _, rfl, by go_num, by omega, HST.out, Arr.set_ (Arr.drewN hA _) _ _, gb_set (gb_drewN hg _) _ _⟩
      case measure => simp [intOf]; omega
    · obtain rfl : I = n := by omega
      go_wp2_with fail
      exact hQ.out C U' _ _ _ _ _ _ _ _ _ _ _ _ _ _ _ _ _ _ _ _ _ _ _ _ _ _ _ _ _ _ hK.out hA hg
end Go.Proofs.YtbddlbhanpjdnaaDoor
