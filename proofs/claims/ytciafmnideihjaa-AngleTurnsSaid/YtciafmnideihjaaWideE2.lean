/- Package wide: over: g times the divisor is taken away (block 4 of its text), over whatever frame. -/
import Derived.Test.YtciafmnideihjaaWideE1
namespace Go.Proofs.Ytciafmnideihjaa
open Go.RowKit

noncomputable def mulCode : Code := (Try.f106.body.bind (findBlock 4)).getD .skip

set_option maxRecDepth 100000 in
set_option maxHeartbeats 1000000 in
theorem mul_wp (c0 c1 c2 c3 c4 c5 c6 c7 c8 c11 c12 c14 c16 c19 c20 c21 c22 c23 c24 c25 c26 c27 c28 c29 c30 c31 c32 c33 c34 c35 c36 c37 c38 c39 c40 c41 c42 c43 c44 c45 c46 c47 c48 c49 c50 c51 c52 c53 c54 c55 c56 c57 c58 c59 c60 c61 c62 c63 c64 c65 c66 c67 c68 c69 c70 c71 c72 c73 c74 c75 c76 c77 c78 c79 c80 c81 c82 c83 c84 c85 c86 c87 c88 c89 c90 c91 c92 c93 c94 c95 c96 c97 c98 c99 c100 c101 c102 c103 c104 c105 c106 c107 c108 c109 c110 c111 c112 c113 c114 c115 c116 c117 c118 c119 c120 c121 c122 c123 c124 c125 c126 c127 c128 c129 c130 c131 c132 c133 c134 c135 c136 c137 c138 c139 c140 c141 c142 c143 c144 c145 c146 c147 c150 c151 c152 c153 c154 c155 c156 c157 c158 c159 c160 c161 c162 c163 c164 c165 c166 c167 c168 c169 c170 c171 c172 c173 c174 c175 c176 c177 c178 c179 c180 c181 c182 c183 c184 c185 c186 c187 c188 c189 c190 c191 c192 c193 c194 c195 c196 c197 c198 c199 c200 c201 c202 c203 c204 c205 c206 c207 c208 c209 c210 c211 c212 c213 c214 c215 c216 c217 c218 c219 c220 c221 c222 c223 c224 c225 c226 c227 c228 c229 c230 c231 c232 c233 c234 c235 c236 c237 c238 c239 c240 c241 c242 c243 c244 c245 c246 c247 c248 c249 c250 c251 c252 c253 c254 c255 c256 c257 c258 : Value) (w1 w2 : World) (Q : Exit → Act → World → Prop)
    (gu gv ov cv n k N G : Nat) (U lv : List Nat) (hkn : k + n < N + 1) (hN : N ≤ 1073741823) (hG : G < 4294967296)
    (hUl : Hid (U.length = N + 1)) (hUs : Sm U) (hU : Arr w1 gu .u32 143 U) (hB : Below gu w2 w1) (hgv : gv < gu)
    (hgetV : ∀ t, t < n → ∃ y, lv[t]? = some y ∧ y < 4294967296 ∧ w2.cell? ⟨gv, ov + t, none⟩ = some (.int .u32 (y : Int)))
    (hQ : ∀ (m c : Nat) (U' : List Nat) (u19 u20 u149 u150 u151 u152 u153 u154 u155 u156 u157 u158 u159 u160 u161 u162 u163 u164 u165 u166 u167 u168 u169 u170 u171 u172 u173 u174 u175 u176 u177 u178 u179 u180 u181 u182 u183 u184 u185 : Value) (wx : World), MulInv U lv G k n m c U' → Arr wx gu .u32 143 U' → w1.grownBy wx (some gu) →
      Q .normal ⟨#[c0, c1, c2, c3, c4, c5, c6, c7, c8, .slice (some ⟨gv, ov, none⟩) n cv, .slice (some ⟨gu, 0, none⟩) (N + 1) (N + 1), c11, c12, .int .i64 (k : Int), c14, .int .u64 (G : Int), c16, .int .u64 (c : Int), .int .u64 (m : Int), u19, u20, c21, c22, c23, c24, c25, c26, c27, c28, c29, c30, c31, c32, c33, c34, c35, c36, c37, c38, c39, c40, c41, c42, c43, c44, c45, c46, c47, c48, c49, c50, c51, c52, c53, c54, c55, c56, c57, c58, c59, c60, c61, c62, c63, c64, c65, c66, c67, c68, c69, c70, c71, c72, c73, c74, c75, c76, c77, c78, c79, c80, c81, c82, c83, c84, c85, c86, c87, c88, c89, c90, c91, c92, c93, c94, c95, c96, c97, c98, c99, c100, c101, c102, c103, c104, c105, c106, c107, c108, c109, c110, c111, c112, c113, c114, c115, c116, c117, c118, c119, c120, c121, c122, c123, c124, c125, c126, c127, c128, c129, c130, c131, c132, c133, c134, c135, c136, c137, c138, c139, c140, c141, c142, c143, c144, c145, c146, c147, .int .i64 (n : Int), u149, u150, u151, u152, u153, u154, u155, u156, u157, u158, u159, u160, u161, u162, u163, u164, u165, u166, u167, u168, u169, u170, u171, u172, u173, u174, u175, u176, u177, u178, u179, u180, u181, u182, u183, u184, u185, c186, c187, c188, c189, c190, c191, c192, c193, c194, c195, c196, c197, c198, c199, c200, c201, c202, c203, c204, c205, c206, c207, c208, c209, c210, c211, c212, c213, c214, c215, c216, c217, c218, c219, c220, c221, c222, c223, c224, c225, c226, c227, c228, c229, c230, c231, c232, c233, c234, c235, c236, c237, c238, c239, c240, c241, c242, c243, c244, c245, c246, c247, c248, c249, c250, c251, c252, c253, c254, c255, c256, c257, c258], []⟩ wx) :
    Code.wp Try.prog mulCode Q ⟨#[c0, c1, c2, c3, c4, c5, c6, c7, c8, .slice (some ⟨gv, ov, none⟩) n cv, .slice (some ⟨gu, 0, none⟩) (N + 1) (N + 1), c11, c12, .int .i64 (k : Int), c14, .int .u64 (G : Int), c16, .int .u64 0, .int .u64 0, c19, c20, c21, c22, c23, c24, c25, c26, c27, c28, c29, c30, c31, c32, c33, c34, c35, c36, c37, c38, c39, c40, c41, c42, c43, c44, c45, c46, c47, c48, c49, c50, c51, c52, c53, c54, c55, c56, c57, c58, c59, c60, c61, c62, c63, c64, c65, c66, c67, c68, c69, c70, c71, c72, c73, c74, c75, c76, c77, c78, c79, c80, c81, c82, c83, c84, c85, c86, c87, c88, c89, c90, c91, c92, c93, c94, c95, c96, c97, c98, c99, c100, c101, c102, c103, c104, c105, c106, c107, c108, c109, c110, c111, c112, c113, c114, c115, c116, c117, c118, c119, c120, c121, c122, c123, c124, c125, c126, c127, c128, c129, c130, c131, c132, c133, c134, c135, c136, c137, c138, c139, c140, c141, c142, c143, c144, c145, c146, c147, .int .i64 (n : Int), .int .i64 0, c150, c151, c152, c153, c154, c155, c156, c157, c158, c159, c160, c161, c162, c163, c164, c165, c166, c167, c168, c169, c170, c171, c172, c173, c174, c175, c176, c177, c178, c179, c180, c181, c182, c183, c184, c185, c186, c187, c188, c189, c190, c191, c192, c193, c194, c195, c196, c197, c198, c199, c200, c201, c202, c203, c204, c205, c206, c207, c208, c209, c210, c211, c212, c213, c214, c215, c216, c217, c218, c219, c220, c221, c222, c223, c224, c225, c226, c227, c228, c229, c230, c231, c232, c233, c234, c235, c236, c237, c238, c239, c240, c241, c242, c243, c244, c245, c246, c247, c248, c249, c250, c251, c252, c253, c254, c255, c256, c257, c258], []⟩ w1 := by
  conv => arg 2; whnf
  have hQ := Lib.hid hQ
  have hgetV := Lib.hid hgetV
  have hB := Lib.hid hB
  go_wp2_with fail
  go_loopw [17, 18, 149] (fun c m i wx => ∃ (C M I : Nat) (U' : List Nat), c = .int .u64 (C : Int) ∧ m = .int .u64 (M : Int) ∧ i = .int .i64 (I : Int) ∧ I ≤ n ∧ MulInv U lv G k I M C U' ∧ Arr wx gu .u32 143 U' ∧ w1.grownBy wx (some gu)) (fun _ _ i _ => n - (intOf i).toNat)
  case atStart => exact ⟨0, 0, 0, U, rfl, rfl, rfl, Nat.zero_le _, MulInv.start hUs lv G k, hU, gb_refl _ _⟩
  case round =>
    obtain ⟨C, M, I, U', rfl, rfl, rfl, hI, hK, hA, hg⟩ := hrel
    have hK := Lib.hid hK
    by_cases h0 : I < n
    · obtain ⟨x, hx, hxs, hcx⟩ := hgetV.out I h0
      obtain ⟨y, hy⟩ : ∃ y, U'[I + k]? = some y := ⟨_, List.getElem?_eq_getElem (by rw [hK.out.len, hUl.out]; omega)⟩
      have hys : y < 4294967296 := hK.out.sm.get hy
      have hcy : wr.cell? ⟨gu, I + k, none⟩ = some (.int .u32 (y : Int)) := hA.cell hy
      have hfy : wr.frozen? ⟨gu, I + k, none⟩ = false := hA.frozen _
      have hcx' : wr.cell? ⟨gv, ov + I, none⟩ = some (.int .u32 (x : Int)) := (hg.cell ((hB.out.cell (p := ⟨gv, ov + I, none⟩) hgv).trans hcx) (by simp; omega))
      have hM := hK.out.hm
      have hC := hK.out.hc
      obtain ⟨P, hP⟩ : ∃ P, P = G * x := ⟨_, rfl⟩
      have hPi : (G : Int) * (x : Int) = (P : Int) := by rw [hP]; push_cast; rfl
      have hPs : P ≤ 18446744065119617025 := by rw [hP]; exact Nat.mul_le_mul (show G ≤ 4294967295 by omega) (show x ≤ 4294967295 by omega)
      obtain ⟨S, hS⟩ : ∃ S, S = M + P := ⟨_, rfl⟩
      have hSi : (M : Int) + (P : Int) = (S : Int) := by rw [hS]; push_cast; rfl
      have hSs : S < 18446744073709551616 := by omega
      obtain ⟨sl, hsl⟩ : ∃ sl, sl = S % 4294967296 := ⟨_, rfl⟩
      have hsli : (S : Int) % 4294967296 = (sl : Int) := by rw [hsl]; rfl
      have hsls : sl < 4294967296 := by omega
      obtain ⟨sh, hsh⟩ : ∃ sh, sh = S / 4294967296 := ⟨_, rfl⟩
      have hshi : (S : Int) / 4294967296 = (sh : Int) := by rw [hsh]; rfl
      obtain ⟨D1, hD1⟩ : ∃ D1, D1 = (y + 18446744073709551616 - sl) % 18446744073709551616 := ⟨_, rfl⟩
      have hD1i : IntKind.u64.wrap ((y : Int) - (sl : Int)) = (D1 : Int) := by rw [IntKind.wrap_u64, hD1]; omega
      obtain ⟨D2, hD2⟩ : ∃ D2, D2 = (D1 + 18446744073709551616 - C) % 18446744073709551616 := ⟨_, rfl⟩
      have hD2i : IntKind.u64.wrap ((D1 : Int) - (C : Int)) = (D2 : Int) := by rw [IntKind.wrap_u64, hD2]; omega
      obtain ⟨d, hd⟩ : ∃ d, d = D2 % 4294967296 := ⟨_, rfl⟩
      have hdi : (D2 : Int) % 4294967296 = (d : Int) := by rw [hd]; rfl
      obtain ⟨c', hc'⟩ : ∃ c', c' = D2 / 9223372036854775808 := ⟨_, rfl⟩
      have hci : (D2 : Int) / 9223372036854775808 = (c' : Int) := by rw [hc']; rfl
      have hds : d < 4294967296 := by omega
      have hfin : c' ≤ 1 ∧ d + S % 4294967296 + C = y + 4294967296 * c' := by rw [← hsl]; omega
      have hst := hK.out.step hG hx hxs hy hfin.1 hds (by rw [← hP, ← hS]; exact hfin.2)
      rw [← hP, ← hS, ← hsh] at hst
      have HST := Lib.hid hst
      clear hx hy hcx hP hS hsl hsh hD1 hD2 hd hc' hfin hst
      go_wp2_with fail
      go_roundw
      case rel => exact ⟨c', sh, I + 1, _, rfl, rfl, by go_num, by omega, HST.out, hA.set_ _ _, gb_set hg _ _⟩
      case measure => simp [intOf]; omega
    · obtain rfl : I = n := by omega
      go_wp2_with fail
      exact hQ.out M C U' _ _ _ _ _ _ _ _ _ _ _ _ _ _ _ _ _ _ _ _ _ _ _ _ _ _ _ _ _ _ _ _ _ _ _ _ _ _ _ _ hK.out hA hg
end Go.Proofs.Ytciafmnideihjaa
