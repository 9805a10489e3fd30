/- Package wide: over: the divisor is added back (block 6 of its text), over whatever frame. -/
import Derived.Test.YtciafmnideihjaaWideE2
namespace Go.Proofs.Ytciafmnideihjaa
open Go.RowKit

noncomputable def addCode : Code := (Try.f106.body.bind (findBlock 6)).getD .skip

set_option maxRecDepth 100000 in
set_option maxHeartbeats 1000000 in
theorem add_wp (c0 c1 c2 c3 c4 c5 c6 c7 c8 c11 c12 c14 c15 c16 c18 c19 c20 c21 c22 c23 c24 c25 c26 c27 c28 c29 c30 c31 c32 c33 c34 c35 c36 c37 c38 c39 c40 c41 c42 c43 c44 c45 c46 c47 c48 c49 c50 c51 c52 c53 c54 c55 c56 c57 c58 c59 c60 c61 c62 c63 c64 c65 c66 c67 c68 c69 c70 c71 c72 c73 c74 c75 c76 c77 c78 c79 c80 c81 c82 c83 c84 c85 c86 c87 c88 c89 c90 c91 c92 c93 c94 c95 c96 c97 c98 c99 c100 c101 c102 c103 c104 c105 c106 c107 c108 c109 c110 c111 c112 c113 c114 c115 c116 c117 c118 c119 c120 c121 c122 c123 c124 c125 c126 c127 c128 c129 c130 c131 c132 c133 c134 c135 c136 c137 c138 c139 c140 c141 c142 c143 c144 c145 c146 c147 c148 c149 c150 c151 c152 c153 c154 c155 c156 c157 c158 c159 c160 c161 c162 c163 c164 c165 c166 c167 c168 c169 c170 c171 c172 c173 c174 c175 c176 c177 c178 c179 c180 c181 c182 c183 c184 c185 c186 c187 c188 c189 c190 c191 c192 c193 c194 c195 c196 c197 c198 c199 c200 c201 c202 c203 c204 c205 c206 c207 c208 c211 c212 c213 c214 c215 c216 c217 c218 c219 c220 c221 c222 c223 c224 c225 c226 c227 c228 c229 c230 c231 c232 c233 c234 c235 c236 c237 c238 c239 c240 c241 c242 c243 c244 c245 c246 c247 c248 c249 c250 c251 c252 c253 c254 c255 c256 c257 c258 : Value) (w1 w2 : World) (Q : Exit → Act → World → Prop)
    (gu gv ov cv n k N : Nat) (U lv : List Nat) (hkn : k + n < N + 1) (hN : N ≤ 1073741823)
    (hUl : Hid (U.length = N + 1)) (hUs : Sm U) (hU : Arr w1 gu .u32 143 U) (hB : Below gu w2 w1) (hgv : gv < gu)
    (hgetV : ∀ t, t < n → ∃ y, lv[t]? = some y ∧ y < 4294967296 ∧ w2.cell? ⟨gv, ov + t, none⟩ = some (.int .u32 (y : Int)))
    (hQ : ∀ (c : Nat) (U' : List Nat) (u22 u210 u211 u212 u213 u214 u215 u216 u217 u218 u219 u220 u221 u222 u223 u224 u225 u226 u227 u228 u229 u230 u231 u232 u233 u234 u235 u236 u237 : Value) (wx : World), AddInv U lv k n c U' → Arr wx gu .u32 143 U' → w1.grownBy wx (some gu) →
      Q .normal ⟨#[c0, c1, c2, c3, c4, c5, c6, c7, c8, .slice (some ⟨gv, ov, none⟩) n cv, .slice (some ⟨gu, 0, none⟩) (N + 1) (N + 1), c11, c12, .int .i64 (k : Int), c14, c15, c16, .int .u64 (c : Int), c18, c19, c20, c21, u22, c23, c24, c25, c26, c27, c28, c29, c30, c31, c32, c33, c34, c35, c36, c37, c38, c39, c40, c41, c42, c43, c44, c45, c46, c47, c48, c49, c50, c51, c52, c53, c54, c55, c56, c57, c58, c59, c60, c61, c62, c63, c64, c65, c66, c67, c68, c69, c70, c71, c72, c73, c74, c75, c76, c77, c78, c79, c80, c81, c82, c83, c84, c85, c86, c87, c88, c89, c90, c91, c92, c93, c94, c95, c96, c97, c98, c99, c100, c101, c102, c103, c104, c105, c106, c107, c108, c109, c110, c111, c112, c113, c114, c115, c116, c117, c118, c119, c120, c121, c122, c123, c124, c125, c126, c127, c128, c129, c130, c131, c132, c133, c134, c135, c136, c137, c138, c139, c140, c141, c142, c143, c144, c145, c146, c147, c148, c149, c150, c151, c152, c153, c154, c155, c156, c157, c158, c159, c160, c161, c162, c163, c164, c165, c166, c167, c168, c169, c170, c171, c172, c173, c174, c175, c176, c177, c178, c179, c180, c181, c182, c183, c184, c185, c186, c187, c188, c189, c190, c191, c192, c193, c194, c195, c196, c197, c198, c199, c200, c201, c202, c203, c204, c205, c206, c207, c208, .int .i64 (n : Int), u210, u211, u212, u213, u214, u215, u216, u217, u218, u219, u220, u221, u222, u223, u224, u225, u226, u227, u228, u229, u230, u231, u232, u233, u234, u235, u236, u237, c238, c239, c240, c241, c242, c243, c244, c245, c246, c247, c248, c249, c250, c251, c252, c253, c254, c255, c256, c257, c258], []⟩ wx) :
    Code.wp Try.prog addCode Q ⟨#[c0, c1, c2, c3, c4, c5, c6, c7, c8, .slice (some ⟨gv, ov, none⟩) n cv, .slice (some ⟨gu, 0, none⟩) (N + 1) (N + 1), c11, c12, .int .i64 (k : Int), c14, c15, c16, .int .u64 0, c18, c19, c20, c21, c22, c23, c24, c25, c26, c27, c28, c29, c30, c31, c32, c33, c34, c35, c36, c37, c38, c39, c40, c41, c42, c43, c44, c45, c46, c47, c48, c49, c50, c51, c52, c53, c54, c55, c56, c57, c58, c59, c60, c61, c62, c63, c64, c65, c66, c67, c68, c69, c70, c71, c72, c73, c74, c75, c76, c77, c78, c79, c80, c81, c82, c83, c84, c85, c86, c87, c88, c89, c90, c91, c92, c93, c94, c95, c96, c97, c98, c99, c100, c101, c102, c103, c104, c105, c106, c107, c108, c109, c110, c111, c112, c113, c114, c115, c116, c117, c118, c119, c120, c121, c122, c123, c124, c125, c126, c127, c128, c129, c130, c131, c132, c133, c134, c135, c136, c137, c138, c139, c140, c141, c142, c143, c144, c145, c146, c147, c148, c149, c150, c151, c152, c153, c154, c155, c156, c157, c158, c159, c160, c161, c162, c163, c164, c165, c166, c167, c168, c169, c170, c171, c172, c173, c174, c175, c176, c177, c178, c179, c180, c181, c182, c183, c184, c185, c186, c187, c188, c189, c190, c191, c192, c193, c194, c195, c196, c197, c198, c199, c200, c201, c202, c203, c204, c205, c206, c207, c208, .int .i64 (n : Int), .int .i64 0, c211, c212, c213, c214, c215, c216, c217, c218, c219, c220, c221, c222, c223, c224, c225, c226, c227, c228, c229, c230, c231, c232, c233, c234, c235, c236, c237, c238, c239, c240, c241, c242, c243, c244, c245, c246, c247, c248, c249, c250, c251, c252, c253, c254, c255, c256, c257, c258], []⟩ w1 := by
  conv => arg 2; whnf
  have hQ := Lib.hid hQ
  have hgetV := Lib.hid hgetV
  have hB := Lib.hid hB
  go_wp2_with fail
  go_loopw [17, 210] (fun c i wx => ∃ (C I : Nat) (U' : List Nat), c = .int .u64 (C : Int) ∧ i = .int .i64 (I : Int) ∧ I ≤ n ∧ AddInv U lv k I C U' ∧ Arr wx gu .u32 143 U' ∧ w1.grownBy wx (some gu)) (fun _ i _ => n - (intOf i).toNat)
  case atStart => exact ⟨0, 0, U, rfl, rfl, Nat.zero_le _, AddInv.start hUs lv k, hU, gb_refl _ _⟩
  case round =>
    obtain ⟨C, I, U', rfl, rfl, hI, hK, hA, hg⟩ := hrel
    have hK := Lib.hid hK
    by_cases h0 : I < n
    · obtain ⟨x, hx, hxs, hcx⟩ := hgetV.out I h0
      obtain ⟨y, hy⟩ : ∃ y, U'[I + k]? = some y := ⟨_, List.getElem?_eq_getElem (by rw [hK.out.len, hUl.out]; omega)⟩
      have hys : y < 4294967296 := hK.out.sm.get hy
      have hcy : wr.cell? ⟨gu, I + k, none⟩ = some (.int .u32 (y : Int)) := hA.cell hy
      have hfy : wr.frozen? ⟨gu, I + k, none⟩ = false := hA.frozen _
      have hcx' : wr.cell? ⟨gv, ov + I, none⟩ = some (.int .u32 (x : Int)) := (hg.cell ((hB.out.cell (p := ⟨gv, ov + I, none⟩) hgv).trans hcx) (by simp; omega))
      have hC := hK.out.hc
      obtain ⟨S, hS⟩ : ∃ S, S = C + (y + x) := ⟨_, rfl⟩
      have hSi : (C : Int) + ((y : Int) + (x : Int)) = (S : Int) := by rw [hS]; push_cast; rfl
      have hSs : S < 18446744073709551616 := by omega
      obtain ⟨sl, hsl⟩ : ∃ sl, sl = S % 4294967296 := ⟨_, rfl⟩
      have hsli : (S : Int) % 4294967296 = (sl : Int) := by rw [hsl]; rfl
      obtain ⟨sh, hsh⟩ : ∃ sh, sh = S / 4294967296 := ⟨_, rfl⟩
      have hshi : (S : Int) / 4294967296 = (sh : Int) := by rw [hsh]; rfl
      have hst := hK.out.step hx hxs hy
      rw [← hS, ← hsl, ← hsh] at hst
      have HST := Lib.hid hst
      clear hx hy hcx hS hsl hsh hst
      go_wp2_with fail
      go_quiet (fail)
      go_wp2_with fail
      go_roundw
      case rel => exact ⟨sh, I + 1, _, rfl, by go_num, by omega, HST.out, Arr.set_ (Arr.drewN hA _) _ _, gb_set (gb_drewN hg _) _ _⟩
      case measure => simp [intOf]; omega
    · obtain rfl : I = n := by omega
      go_wp2_with fail
      exact hQ.out C U' _ _ _ _ _ _ _ _ _ _ _ _ _ _ _ _ _ _ _ _ _ _ _ _ _ _ _ _ _ _ hK.out hA hg
end Go.Proofs.Ytciafmnideihjaa
