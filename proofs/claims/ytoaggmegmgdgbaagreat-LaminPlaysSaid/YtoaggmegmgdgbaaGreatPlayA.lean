import Derived.Test.YtoaggmegmgdgbaaGreatPlayH
import Derived.Deep.CutBlock
import Derived.Deep.CutRange
namespace Go.Proofs.YtoaggmegmgdgbaaGreat
open Go.RowKit Go.Sort
attribute [local go_sem] Oper.semAt_some
set_option maxRecDepth 100000 in
set_option maxHeartbeats 16000000 in
theorem plays_add (c1 c9 c10 c11 c12 c13 c14 c15 c16 c17 c18 c19 c20 c21 c22 c23 c24 c25 c26 c27 c28 c29 c30 c31 c32 c33 c34 c35 c36 c37 c38 c39 c40 c41 c42 c43 c44 c45 c46 c47 c48 c50 c51 c52 c53 c54 c55 c56 c57 c58 c59 c60 c61 c62 c63 c64 c65 c66 c67 c68 c69 c70 c71 c72 c73 c74 c75 c76 c77 c78 c79 c80 c81 c82 c83 c84 c85 c86 c87 c88 c89 c90 c91 c92 c93 c94 c95 c96 c97 c98 c99 c100 c101 c102 c103 c104 c105 c106 c107 c108 c109 c110 c111 c112 c113 c114 c115 c116 c117 c118 c119 c120 c121 c122 c123 c124 c125 c126 c127 c128 c129 c130 c131 c132 c133 c134 c135 c136 c137 c138 c139 c140 c141 c142 c143 c144 c145 c146 c147 c148 c149 c150 c151 c152 c153 c154 c155 c156 c157 c158 c159 c160 c161 c162 c163 c164 c165 c166 c167 c168 c169 c170 c171 c172 c173 c174 c175 c176 c177 c178 c179 c180 c181 c182 c183 c184 c185 c186 c187 c188 c189 c190 c191 c192 c193 c194 c195 c196 c197 c198 c199 c200 c201 c202 c203 c204 c205 c206 c207 c208 c209 c210 c211 c212 c213 c214 c215 c216 c217 c218 c219 c220 c221 c222 c223 c224 c225 c226 c227 c228 c229 c230 c231 c232 c233 c234 c235 c236 c237 c238 c239 c240 c241 c242 c243 c244 c245 c246 c247 c248 c249 c250 c251 c252 c253 c254 c255 c256 c257 c258 c259 c260 c261 c262 c263 c264 c265 c266 c267 c268 c269 c270 c271 c272 c273 c274 c275 c276 c277 c278 c279 c280 c281 c282 c283 c284 c285 c286 c287 c288 c289 c290 c291 c292 c293 c294 c295 c296 c297 c298 c299 c300 c301 : Value) (gs so n sc g2 g4 g6 g7 x i B : Nat) (vx wv : Value) (L : List Lf) (ds : List Deferred) (w w5 : World) (nz c q0 q1 q2 q3 : Int) (n1 : Bool) (a1 d1 : ByteArray) (n2 : Bool) (a2 d2 : ByteArray) (Q : Exit → Act → World → Prop)
    (hz1 : a1.size ≤ 9223372036854775807) (hz2 : d1.size ≤ 9223372036854775807) (hz3 : a2.size ≤ 9223372036854775807) (hz4 : d2.size ≤ 9223372036854775807)
    (hq : Hid (c = 0 → ∃ l : Lf, Lfp l ∧ n1 = false ∧ a1 = natS l.1.1 ∧ d1 = natS l.1.2 ∧ n2 = false ∧ a2 = natS l.2.1 ∧ d2 = natS l.2.2 ∧ #[Value.int .u64 q0, .int .u64 q1, .int .u64 q2, .int .u64 q3] = #[.int .u64 (l.1.1 : Int), .int .u64 (l.1.2 : Int), .int .u64 (l.2.1 : Int), .int .u64 (l.2.2 : Int)]))
    (hcE : Hid (c = chkLf n1 a1 d1 n2 a2 d2)) (hP : Hid (PlS B g2 g4 g6 g7 x vx wv L L #[.int .i64 0, .bool n1, .string a1, .string d1, .bool n2, .string a2, .string d2, .int .i64 nz] #[.int .u64 q0, .int .u64 q1, .int .u64 q2, .int .u64 q3] ds w w5))
    (hQ : ∀ (y : Nat) (vy wy : Value) (L' : List Lf) (u8 u9 u10 u11 u12 u13 u14 u15 u16 u17 u18 u19 u20 u21 u22 u23 u24 u50 u51 u52 u53 u54 u55 u56 u57 u58 u59 u60 u61 u62 u63 u64 u65 u66 u67 u68 u69 u70 u71 u72 u73 u74 u75 u76 u77 u78 u79 u80 u81 u82 u83 u84 u85 u86 u87 u88 u89 u90 u91 u92 u93 u94 u95 u96 u97 u98 u99 u100 u101 u102 u103 u104 u105 u106 u107 u108 u109 u110 u111 u112 u113 u114 u115 u116 u117 u118 u119 u120 u121 u122 u123 u124 u125 u126 u127 u128 u129 u130 u131 u132 u133 u134 u135 u136 u137 u138 u139 u140 u141 u142 u143 u144 u145 u146 u147 u148 u149 u150 u151 u152 u153 u154 u155 u156 u157 u158 u159 u160 u161 u162 u163 u164 u165 u166 u167 u168 u169 u170 u171 u172 u173 u174 u175 u176 u177 u178 u179 u180 u181 u182 u183 u184 u185 u186 u187 u188 u189 u190 u191 u192 u193 u194 u195 u196 u197 u198 u199 u200 u201 u202 u203 u204 u205 u206 u207 u208 u209 u210 u211 u212 u213 u214 u215 u216 u217 u218 u219 u220 u221 u222 u223 u224 u225 u226 u227 u228 u229 u230 u231 u232 u233 u234 u235 u236 u237 u238 u239 u240 u241 u242 u243 u244 u245 u246 u247 u248 u249 u250 u251 u252 u253 u254 u255 u256 u257 u258 u259 u260 u261 u262 u263 u264 u265 u266 u267 u268 u269 u270 u271 u272 u273 u274 u275 u276 u277 u278 u279 u280 u281 u282 u283 u284 u285 u286 u287 u288 u289 u290 u291 u292 u293 u294 : Value) (es : List Deferred) (W : World), PlH B g2 g4 y vy wy L' es w W → Q .normal { tmps := #[.slice (some ⟨gs, so, none⟩) n sc, c1, .pointer (some ⟨g2, 0, none⟩), .pointer (some ⟨y, 0, none⟩), .pointer (some ⟨g4, 0, none⟩), .int .i64 (i : Int), .pointer (some ⟨g6, 0, none⟩), .pointer (some ⟨g7, 0, none⟩), u8, u9, u10, u11, u12, u13, u14, u15, u16, u17, u18, u19, u20, u21, u22, u23, u24, c25, c26, c27, c28, c29, c30, c31, c32, c33, c34, c35, c36, c37, c38, c39, c40, c41, c42, c43, c44, c45, c46, c47, c48, .int .i64 0, u50, u51, u52, u53, u54, u55, u56, u57, u58, u59, u60, u61, u62, u63, u64, u65, u66, u67, u68, u69, u70, u71, u72, u73, u74, u75, u76, u77, u78, u79, u80, u81, u82, u83, u84, u85, u86, u87, u88, u89, u90, u91, u92, u93, u94, u95, u96, u97, u98, u99, u100, u101, u102, u103, u104, u105, u106, u107, u108, u109, u110, u111, u112, u113, u114, u115, u116, u117, u118, u119, u120, u121, u122, u123, u124, u125, u126, u127, u128, u129, u130, u131, u132, u133, u134, u135, u136, u137, u138, u139, u140, u141, u142, u143, u144, u145, u146, u147, u148, u149, u150, u151, u152, u153, u154, u155, u156, u157, u158, u159, u160, u161, u162, u163, u164, u165, u166, u167, u168, u169, u170, u171, u172, u173, u174, u175, u176, u177, u178, u179, u180, u181, u182, u183, u184, u185, u186, u187, u188, u189, u190, u191, u192, u193, u194, u195, u196, u197, u198, u199, u200, u201, u202, u203, u204, u205, u206, u207, u208, u209, u210, u211, u212, u213, u214, u215, u216, u217, u218, u219, u220, u221, u222, u223, u224, u225, u226, u227, u228, u229, u230, u231, u232, u233, u234, u235, u236, u237, u238, u239, u240, u241, u242, u243, u244, u245, u246, u247, u248, u249, u250, u251, u252, u253, u254, u255, u256, u257, u258, u259, u260, u261, u262, u263, u264, u265, u266, u267, u268, u269, u270, u271, u272, u273, u274, u275, u276, u277, u278, u279, u280, u281, u282, u283, u284, u285, u286, u287, u288, u289, u290, u291, u292, u293, u294, c295, c296, c297, c298, c299, c300, c301], defers := es } W) :
    Code.wp Tryz.prog swCode Q { tmps := #[.slice (some ⟨gs, so, none⟩) n sc, c1, .pointer (some ⟨g2, 0, none⟩), .pointer (some ⟨x, 0, none⟩), .pointer (some ⟨g4, 0, none⟩), .int .i64 (i : Int), .pointer (some ⟨g6, 0, none⟩), .pointer (some ⟨g7, 0, none⟩), .int .i64 c, c9, c10, c11, c12, c13, c14, c15, c16, c17, c18, c19, c20, c21, c22, c23, c24, c25, c26, c27, c28, c29, c30, c31, c32, c33, c34, c35, c36, c37, c38, c39, c40, c41, c42, c43, c44, c45, c46, c47, c48, .int .i64 0, c50, c51, c52, c53, c54, c55, c56, c57, c58, c59, c60, c61, c62, c63, c64, c65, c66, c67, c68, c69, c70, c71, c72, c73, c74, c75, c76, c77, c78, c79, c80, c81, c82, c83, c84, c85, c86, c87, c88, c89, c90, c91, c92, c93, c94, c95, c96, c97, c98, c99, c100, c101, c102, c103, c104, c105, c106, c107, c108, c109, c110, c111, c112, c113, c114, c115, c116, c117, c118, c119, c120, c121, c122, c123, c124, c125, c126, c127, c128, c129, c130, c131, c132, c133, c134, c135, c136, c137, c138, c139, c140, c141, c142, c143, c144, c145, c146, c147, c148, c149, c150, c151, c152, c153, c154, c155, c156, c157, c158, c159, c160, c161, c162, c163, c164, c165, c166, c167, c168, c169, c170, c171, c172, c173, c174, c175, c176, c177, c178, c179, c180, c181, c182, c183, c184, c185, c186, c187, c188, c189, c190, c191, c192, c193, c194, c195, c196, c197, c198, c199, c200, c201, c202, c203, c204, c205, c206, c207, c208, c209, c210, c211, c212, c213, c214, c215, c216, c217, c218, c219, c220, c221, c222, c223, c224, c225, c226, c227, c228, c229, c230, c231, c232, c233, c234, c235, c236, c237, c238, c239, c240, c241, c242, c243, c244, c245, c246, c247, c248, c249, c250, c251, c252, c253, c254, c255, c256, c257, c258, c259, c260, c261, c262, c263, c264, c265, c266, c267, c268, c269, c270, c271, c272, c273, c274, c275, c276, c277, c278, c279, c280, c281, c282, c283, c284, c285, c286, c287, c288, c289, c290, c291, c292, c293, c294, c295, c296, c297, c298, c299, c300, c301], defers := ds } w5 := by
  conv => arg 2; whnf
  have hQ := Lib.hid hQ
  by_cases hc0 : c = 0
  case pos =>
    obtain ⟨l, hl, e1, e2, e3, e4, e5, e6, e7⟩ := hq.out hc0
    subst e1 e2 e3 e4 e5 e6
    have hP1 : Hid (PlS B g2 g4 g6 g7 x vx wv L L #[.int .i64 0, .bool false, .string (natS l.1.1), .string (natS l.1.2), .bool false, .string (natS l.2.1), .string (natS l.2.2), .int .i64 nz] #[.int .u64 (l.1.1 : Int), .int .u64 (l.1.2 : Int), .int .u64 (l.2.1 : Int), .int .u64 (l.2.2 : Int)] ds w w5) := Lib.hid (by rw [← e7]; exact hP.out)
    clear hP
    have hP := hP1
    clear hP1
    subst hc0
    have cA := Lib.hid (rladd_any B wv L l w5 hP.out.row (Nat.le_trans hP.out.lo.2.2 hP.out.bel.size) hP.out.lam.ok hl hP.out.lam.len)
    have b40 : w5.cell? ⟨g4, 0, none⟩ = some wv := hP.out.b4.cell 0
    have q0 : w5.cell? ⟨g7, 0, none⟩ = some (.int .u64 (l.1.1 : Int)) := hP.out.b7.cell 0
    have q1 : w5.cell? ⟨g7, 1, none⟩ = some (.int .u64 (l.1.2 : Int)) := hP.out.b7.cell 1
    have q2 : w5.cell? ⟨g7, 2, none⟩ = some (.int .u64 (l.2.1 : Int)) := hP.out.b7.cell 2
    have q3 : w5.cell? ⟨g7, 3, none⟩ = some (.int .u64 (l.2.2 : Int)) := hP.out.b7.cell 3
    clear hq
    obtain ⟨ae, hae⟩ : ∃ r, r = (addL L l).2 := ⟨_, rfl⟩
    rw [← hae] at cA
    replace hae := Lib.hid hae
    go_wp2_with fail
    refine cA.out.mono ?_
    rintro en w6 ⟨v6, rfl, hr6, hb⟩
    try dsimp only
    have hP6 := Lib.hid (hP.out.below hb)
    obtain ⟨m6, hm6⟩ : ∃ m, m = (addL L l).1.length := ⟨_, rfl⟩
    obtain ⟨A6, c6, hv6, -⟩ := RRow.form hr6
    rw [← hm6] at hv6
    subst hv6
    have hr7 := Lib.hid hr6
    replace hm6 := Lib.hid hm6
    clear hb cA b40 q0 q1 q2 q3 hP hr6
    have b40 : w6.cell? ⟨g4, 0, none⟩ = some wv := hP6.out.b4.cell 0
    have b4f := hP6.out.b4.frozen 0
    have hP7 := Lib.hid (hP6.out.store hr7.out)
    clear hr7
    go_upto_region 16 with fail
    generalize hW : w6.setCell ⟨g4, 0, none⟩ (.slice A6 m6 c6) = w7 at hP7 ⊢
    clear hW b40 b4f hP6
    have hP := hP7
    clear hP7
    have s0 : w7.cell? ⟨g6, 1, none⟩ = some (.bool false) := hP.out.b6.cell 1
    have s1 : w7.cell? ⟨g6, 2, none⟩ = some (.string (natS l.1.1)) := hP.out.b6.cell 2
    have s2 : w7.cell? ⟨g6, 3, none⟩ = some (.string (natS l.1.2)) := hP.out.b6.cell 3
    have s3 : w7.cell? ⟨g6, 4, none⟩ = some (.bool false) := hP.out.b6.cell 4
    have s4 : w7.cell? ⟨g6, 5, none⟩ = some (.string (natS l.2.1)) := hP.out.b6.cell 5
    have s5 : w7.cell? ⟨g6, 6, none⟩ = some (.string (natS l.2.2)) := hP.out.b6.cell 6
    have cB := Lib.hid (lAdd_leaf B x vx L l w7 hP.out.lam hl)
    rw [← hae.out] at cB
    have haz : (ae != ae) = false := by simp
    go_wp2_with fail
    refine cB.out.mono ?_
    rintro en w8 ⟨rfl, vx8, hl8, hbt⟩
    try dsimp only
    have hP8 := Lib.hid (hP.out.butL hbt hl8)
    clear hbt hl8 hP cB s0 s1 s2 s3 s4 s5
    have hP := hP8
    clear hP8
    go_wp2_with fail
    exact hQ.out x vx8 _ (addL L l).1 _ _ _ _ _ _ _ _ _ _ _ _ _ _ _ _ _ _ _ _ _ _ _ _ _ _ _ _ _ _ _ _ _ _ _ _ _ _ _ _ _ _ _ _ _ _ _ _ _ _ _ _ _ _ _ _ _ _ _ _ _ _ _ _ _ _ _ _ _ _ _ _ _ _ _ _ _ _ _ _ _ _ _ _ _ _ _ _ _ _ _ _ _ _ _ _ _ _ _ _ _ _ _ _ _ _ _ _ _ _ _ _ _ _ _ _ _ _ _ _ _ _ _ _ _ _ _ _ _ _ _ _ _ _ _ _ _ _ _ _ _ _ _ _ _ _ _ _ _ _ _ _ _ _ _ _ _ _ _ _ _ _ _ _ _ _ _ _ _ _ _ _ _ _ _ _ _ _ _ _ _ _ _ _ _ _ _ _ _ _ _ _ _ _ _ _ _ _ _ _ _ _ _ _ _ _ _ _ _ _ _ _ _ _ _ _ _ _ _ _ _ _ _ _ _ _ _ _ _ _ _ _ _ _ _ _ _ _ _ _ _ _ _ _ _ _ _ _ _ _ _ _ _ _ _ _ _ _ _ _ _ _ _ _ hP.out.head
  case neg =>
    have hcb : (c == 0) = false := by simpa using hc0
    have hcn : (c != c) = false := by simp
    have cB := Lib.hid (lAdd_any B x vx L n1 a1 d1 n2 a2 d2 w5 hP.out.lam hz1 hz2 hz3 hz4)
    have hbad : addR L n1 a1 d1 n2 a2 d2 = (L, c) := by rw [addR, ← hcE.out, if_neg hc0]
    rw [hbad] at cB
    clear hbad hq
    have s0 : w5.cell? ⟨g6, 1, none⟩ = some (.bool n1) := hP.out.b6.cell 1
    have s1 : w5.cell? ⟨g6, 2, none⟩ = some (.string a1) := hP.out.b6.cell 2
    have s2 : w5.cell? ⟨g6, 3, none⟩ = some (.string d1) := hP.out.b6.cell 3
    have s3 : w5.cell? ⟨g6, 4, none⟩ = some (.bool n2) := hP.out.b6.cell 4
    have s4 : w5.cell? ⟨g6, 5, none⟩ = some (.string a2) := hP.out.b6.cell 5
    have s5 : w5.cell? ⟨g6, 6, none⟩ = some (.string d2) := hP.out.b6.cell 6
    go_wp2_with fail
    refine cB.out.mono ?_
    rintro en w8 ⟨rfl, vx8, hl8, hbt⟩
    try dsimp only
    have hP8 := Lib.hid (hP.out.butL hbt hl8)
    clear hbt hl8 hP cB s0 s1 s2 s3 s4 s5 hcb
    have hP := hP8
    clear hP8
    go_wp2_with fail
    exact hQ.out x vx8 _ L _ _ _ _ _ _ _ _ _ _ _ _ _ _ _ _ _ _ _ _ _ _ _ _ _ _ _ _ _ _ _ _ _ _ _ _ _ _ _ _ _ _ _ _ _ _ _ _ _ _ _ _ _ _ _ _ _ _ _ _ _ _ _ _ _ _ _ _ _ _ _ _ _ _ _ _ _ _ _ _ _ _ _ _ _ _ _ _ _ _ _ _ _ _ _ _ _ _ _ _ _ _ _ _ _ _ _ _ _ _ _ _ _ _ _ _ _ _ _ _ _ _ _ _ _ _ _ _ _ _ _ _ _ _ _ _ _ _ _ _ _ _ _ _ _ _ _ _ _ _ _ _ _ _ _ _ _ _ _ _ _ _ _ _ _ _ _ _ _ _ _ _ _ _ _ _ _ _ _ _ _ _ _ _ _ _ _ _ _ _ _ _ _ _ _ _ _ _ _ _ _ _ _ _ _ _ _ _ _ _ _ _ _ _ _ _ _ _ _ _ _ _ _ _ _ _ _ _ _ _ _ _ _ _ _ _ _ _ _ _ _ _ _ _ _ _ _ _ _ _ _ _ _ _ _ _ _ _ _ _ _ _ _ _ hP.out.head
set_option maxRecDepth 100000 in
set_option maxHeartbeats 16000000 in
theorem plays_has (c1 c9 c10 c11 c12 c13 c14 c15 c16 c17 c18 c19 c20 c21 c22 c23 c24 c25 c26 c27 c28 c29 c30 c31 c32 c33 c34 c35 c36 c37 c38 c39 c40 c41 c42 c43 c44 c45 c46 c47 c48 c50 c51 c52 c53 c54 c55 c56 c57 c58 c59 c60 c61 c62 c63 c64 c65 c66 c67 c68 c69 c70 c71 c72 c73 c74 c75 c76 c77 c78 c79 c80 c81 c82 c83 c84 c85 c86 c87 c88 c89 c90 c91 c92 c93 c94 c95 c96 c97 c98 c99 c100 c101 c102 c103 c104 c105 c106 c107 c108 c109 c110 c111 c112 c113 c114 c115 c116 c117 c118 c119 c120 c121 c122 c123 c124 c125 c126 c127 c128 c129 c130 c131 c132 c133 c134 c135 c136 c137 c138 c139 c140 c141 c142 c143 c144 c145 c146 c147 c148 c149 c150 c151 c152 c153 c154 c155 c156 c157 c158 c159 c160 c161 c162 c163 c164 c165 c166 c167 c168 c169 c170 c171 c172 c173 c174 c175 c176 c177 c178 c179 c180 c181 c182 c183 c184 c185 c186 c187 c188 c189 c190 c191 c192 c193 c194 c195 c196 c197 c198 c199 c200 c201 c202 c203 c204 c205 c206 c207 c208 c209 c210 c211 c212 c213 c214 c215 c216 c217 c218 c219 c220 c221 c222 c223 c224 c225 c226 c227 c228 c229 c230 c231 c232 c233 c234 c235 c236 c237 c238 c239 c240 c241 c242 c243 c244 c245 c246 c247 c248 c249 c250 c251 c252 c253 c254 c255 c256 c257 c258 c259 c260 c261 c262 c263 c264 c265 c266 c267 c268 c269 c270 c271 c272 c273 c274 c275 c276 c277 c278 c279 c280 c281 c282 c283 c284 c285 c286 c287 c288 c289 c290 c291 c292 c293 c294 c295 c296 c297 c298 c299 c300 c301 : Value) (gs so n sc g2 g4 g6 g7 x i B : Nat) (vx wv : Value) (L : List Lf) (ds : List Deferred) (w w5 : World) (nz c q0 q1 q2 q3 : Int) (n1 : Bool) (a1 d1 : ByteArray) (n2 : Bool) (a2 d2 : ByteArray) (Q : Exit → Act → World → Prop)
    (hz1 : a1.size ≤ 9223372036854775807) (hz2 : d1.size ≤ 9223372036854775807) (hz3 : a2.size ≤ 9223372036854775807) (hz4 : d2.size ≤ 9223372036854775807)
    (hq : Hid (c = 0 → ∃ l : Lf, Lfp l ∧ n1 = false ∧ a1 = natS l.1.1 ∧ d1 = natS l.1.2 ∧ n2 = false ∧ a2 = natS l.2.1 ∧ d2 = natS l.2.2 ∧ #[Value.int .u64 q0, .int .u64 q1, .int .u64 q2, .int .u64 q3] = #[.int .u64 (l.1.1 : Int), .int .u64 (l.1.2 : Int), .int .u64 (l.2.1 : Int), .int .u64 (l.2.2 : Int)]))
    (hcE : Hid (c = chkLf n1 a1 d1 n2 a2 d2)) (hP : Hid (PlS B g2 g4 g6 g7 x vx wv L L #[.int .i64 1, .bool n1, .string a1, .string d1, .bool n2, .string a2, .string d2, .int .i64 nz] #[.int .u64 q0, .int .u64 q1, .int .u64 q2, .int .u64 q3] ds w w5))
    (hQ : ∀ (y : Nat) (vy wy : Value) (L' : List Lf) (u8 u9 u10 u11 u12 u13 u14 u15 u16 u17 u18 u19 u20 u21 u22 u23 u24 u50 u51 u52 u53 u54 u55 u56 u57 u58 u59 u60 u61 u62 u63 u64 u65 u66 u67 u68 u69 u70 u71 u72 u73 u74 u75 u76 u77 u78 u79 u80 u81 u82 u83 u84 u85 u86 u87 u88 u89 u90 u91 u92 u93 u94 u95 u96 u97 u98 u99 u100 u101 u102 u103 u104 u105 u106 u107 u108 u109 u110 u111 u112 u113 u114 u115 u116 u117 u118 u119 u120 u121 u122 u123 u124 u125 u126 u127 u128 u129 u130 u131 u132 u133 u134 u135 u136 u137 u138 u139 u140 u141 u142 u143 u144 u145 u146 u147 u148 u149 u150 u151 u152 u153 u154 u155 u156 u157 u158 u159 u160 u161 u162 u163 u164 u165 u166 u167 u168 u169 u170 u171 u172 u173 u174 u175 u176 u177 u178 u179 u180 u181 u182 u183 u184 u185 u186 u187 u188 u189 u190 u191 u192 u193 u194 u195 u196 u197 u198 u199 u200 u201 u202 u203 u204 u205 u206 u207 u208 u209 u210 u211 u212 u213 u214 u215 u216 u217 u218 u219 u220 u221 u222 u223 u224 u225 u226 u227 u228 u229 u230 u231 u232 u233 u234 u235 u236 u237 u238 u239 u240 u241 u242 u243 u244 u245 u246 u247 u248 u249 u250 u251 u252 u253 u254 u255 u256 u257 u258 u259 u260 u261 u262 u263 u264 u265 u266 u267 u268 u269 u270 u271 u272 u273 u274 u275 u276 u277 u278 u279 u280 u281 u282 u283 u284 u285 u286 u287 u288 u289 u290 u291 u292 u293 u294 : Value) (es : List Deferred) (W : World), PlH B g2 g4 y vy wy L' es w W → Q .normal { tmps := #[.slice (some ⟨gs, so, none⟩) n sc, c1, .pointer (some ⟨g2, 0, none⟩), .pointer (some ⟨y, 0, none⟩), .pointer (some ⟨g4, 0, none⟩), .int .i64 (i : Int), .pointer (some ⟨g6, 0, none⟩), .pointer (some ⟨g7, 0, none⟩), u8, u9, u10, u11, u12, u13, u14, u15, u16, u17, u18, u19, u20, u21, u22, u23, u24, c25, c26, c27, c28, c29, c30, c31, c32, c33, c34, c35, c36, c37, c38, c39, c40, c41, c42, c43, c44, c45, c46, c47, c48, .int .i64 1, u50, u51, u52, u53, u54, u55, u56, u57, u58, u59, u60, u61, u62, u63, u64, u65, u66, u67, u68, u69, u70, u71, u72, u73, u74, u75, u76, u77, u78, u79, u80, u81, u82, u83, u84, u85, u86, u87, u88, u89, u90, u91, u92, u93, u94, u95, u96, u97, u98, u99, u100, u101, u102, u103, u104, u105, u106, u107, u108, u109, u110, u111, u112, u113, u114, u115, u116, u117, u118, u119, u120, u121, u122, u123, u124, u125, u126, u127, u128, u129, u130, u131, u132, u133, u134, u135, u136, u137, u138, u139, u140, u141, u142, u143, u144, u145, u146, u147, u148, u149, u150, u151, u152, u153, u154, u155, u156, u157, u158, u159, u160, u161, u162, u163, u164, u165, u166, u167, u168, u169, u170, u171, u172, u173, u174, u175, u176, u177, u178, u179, u180, u181, u182, u183, u184, u185, u186, u187, u188, u189, u190, u191, u192, u193, u194, u195, u196, u197, u198, u199, u200, u201, u202, u203, u204, u205, u206, u207, u208, u209, u210, u211, u212, u213, u214, u215, u216, u217, u218, u219, u220, u221, u222, u223, u224, u225, u226, u227, u228, u229, u230, u231, u232, u233, u234, u235, u236, u237, u238, u239, u240, u241, u242, u243, u244, u245, u246, u247, u248, u249, u250, u251, u252, u253, u254, u255, u256, u257, u258, u259, u260, u261, u262, u263, u264, u265, u266, u267, u268, u269, u270, u271, u272, u273, u274, u275, u276, u277, u278, u279, u280, u281, u282, u283, u284, u285, u286, u287, u288, u289, u290, u291, u292, u293, u294, c295, c296, c297, c298, c299, c300, c301], defers := es } W) :
    Code.wp Tryz.prog swCode Q { tmps := #[.slice (some ⟨gs, so, none⟩) n sc, c1, .pointer (some ⟨g2, 0, none⟩), .pointer (some ⟨x, 0, none⟩), .pointer (some ⟨g4, 0, none⟩), .int .i64 (i : Int), .pointer (some ⟨g6, 0, none⟩), .pointer (some ⟨g7, 0, none⟩), .int .i64 c, c9, c10, c11, c12, c13, c14, c15, c16, c17, c18, c19, c20, c21, c22, c23, c24, c25, c26, c27, c28, c29, c30, c31, c32, c33, c34, c35, c36, c37, c38, c39, c40, c41, c42, c43, c44, c45, c46, c47, c48, .int .i64 1, c50, c51, c52, c53, c54, c55, c56, c57, c58, c59, c60, c61, c62, c63, c64, c65, c66, c67, c68, c69, c70, c71, c72, c73, c74, c75, c76, c77, c78, c79, c80, c81, c82, c83, c84, c85, c86, c87, c88, c89, c90, c91, c92, c93, c94, c95, c96, c97, c98, c99, c100, c101, c102, c103, c104, c105, c106, c107, c108, c109, c110, c111, c112, c113, c114, c115, c116, c117, c118, c119, c120, c121, c122, c123, c124, c125, c126, c127, c128, c129, c130, c131, c132, c133, c134, c135, c136, c137, c138, c139, c140, c141, c142, c143, c144, c145, c146, c147, c148, c149, c150, c151, c152, c153, c154, c155, c156, c157, c158, c159, c160, c161, c162, c163, c164, c165, c166, c167, c168, c169, c170, c171, c172, c173, c174, c175, c176, c177, c178, c179, c180, c181, c182, c183, c184, c185, c186, c187, c188, c189, c190, c191, c192, c193, c194, c195, c196, c197, c198, c199, c200, c201, c202, c203, c204, c205, c206, c207, c208, c209, c210, c211, c212, c213, c214, c215, c216, c217, c218, c219, c220, c221, c222, c223, c224, c225, c226, c227, c228, c229, c230, c231, c232, c233, c234, c235, c236, c237, c238, c239, c240, c241, c242, c243, c244, c245, c246, c247, c248, c249, c250, c251, c252, c253, c254, c255, c256, c257, c258, c259, c260, c261, c262, c263, c264, c265, c266, c267, c268, c269, c270, c271, c272, c273, c274, c275, c276, c277, c278, c279, c280, c281, c282, c283, c284, c285, c286, c287, c288, c289, c290, c291, c292, c293, c294, c295, c296, c297, c298, c299, c300, c301], defers := ds } w5 := by
  conv => arg 2; whnf
  have hQ := Lib.hid hQ
  by_cases hc0 : c = 0
  case pos =>
    obtain ⟨l, hl, e1, e2, e3, e4, e5, e6, e7⟩ := hq.out hc0
    subst e1 e2 e3 e4 e5 e6
    have hP1 : Hid (PlS B g2 g4 g6 g7 x vx wv L L #[.int .i64 1, .bool false, .string (natS l.1.1), .string (natS l.1.2), .bool false, .string (natS l.2.1), .string (natS l.2.2), .int .i64 nz] #[.int .u64 (l.1.1 : Int), .int .u64 (l.1.2 : Int), .int .u64 (l.2.1 : Int), .int .u64 (l.2.2 : Int)] ds w w5) := Lib.hid (by rw [← e7]; exact hP.out)
    clear hP
    have hP := hP1
    clear hP1
    subst hc0
    obtain ⟨b, hbE⟩ : ∃ b, b = decide (l ∈ L) := ⟨_, rfl⟩
    have cB := Lib.hid (lHas_all B x vx L false (natS l.1.1) (natS l.1.2) false (natS l.2.1) (natS l.2.2) w5 hP.out.lam hz1 hz2 hz3 hz4)
    have hh : hasR L false (natS l.1.1) (natS l.1.2) false (natS l.2.1) (natS l.2.2) = b := by
      rw [hbE, hasR, ← hcE.out, be_natS, be_natS, be_natS, be_natS]
      simp
    rw [hh] at cB
    have cH : Hid (∀ W, RRow W B wv L → Calls Tryz.prog 46 #[wv, .agg #[.int .u64 (l.1.1 : Int), .int .u64 (l.1.2 : Int), .int .u64 (l.2.1 : Int), .int .u64 (l.2.2 : Int)]] W (RetVal (.bool b) W)) := Lib.hid (fun W h => by
      have h2 := rlhas_any B wv L l W h hP.out.lam.ok.ang hl.1 hP.out.lam.ok.up (by have := hP.out.lam.len; omega)
      rw [← hbE] at h2
      exact h2)
    replace hbE := Lib.hid hbE
    clear hh hq
    have s0 : w5.cell? ⟨g6, 1, none⟩ = some (.bool false) := hP.out.b6.cell 1
    have s1 : w5.cell? ⟨g6, 2, none⟩ = some (.string (natS l.1.1)) := hP.out.b6.cell 2
    have s2 : w5.cell? ⟨g6, 3, none⟩ = some (.string (natS l.1.2)) := hP.out.b6.cell 3
    have s3 : w5.cell? ⟨g6, 4, none⟩ = some (.bool false) := hP.out.b6.cell 4
    have s4 : w5.cell? ⟨g6, 5, none⟩ = some (.string (natS l.2.1)) := hP.out.b6.cell 5
    have s5 : w5.cell? ⟨g6, 6, none⟩ = some (.string (natS l.2.2)) := hP.out.b6.cell 6
    go_wp2_with fail
    refine cB.out.mono ?_
    rintro en w6 ⟨rfl, hb⟩
    try dsimp only
    replace hP := Lib.hid (hP.out.below hb)
    clear hb cB s0 s1 s2 s3 s4 s5
    have cH6 := Lib.hid (cH.out w6 hP.out.row)
    have b40 : w6.cell? ⟨g4, 0, none⟩ = some wv := hP.out.b4.cell 0
    have q0 : w6.cell? ⟨g7, 0, none⟩ = some (.int .u64 (l.1.1 : Int)) := hP.out.b7.cell 0
    have q1 : w6.cell? ⟨g7, 1, none⟩ = some (.int .u64 (l.1.2 : Int)) := hP.out.b7.cell 1
    have q2 : w6.cell? ⟨g7, 2, none⟩ = some (.int .u64 (l.2.1 : Int)) := hP.out.b7.cell 2
    have q3 : w6.cell? ⟨g7, 3, none⟩ = some (.int .u64 (l.2.2 : Int)) := hP.out.b7.cell 3
    have hbb : (b != b) = false := by cases b <;> rfl
    clear cH
    go_wp2_with fail
    refine cH6.out.mono ?_
    rintro en w7 ⟨rfl, hb⟩
    try dsimp only
    replace hP := Lib.hid (hP.out.below hb)
    clear hb cH6 b40 q0 q1 q2 q3
    go_wp2_with fail
    exact hQ.out x vx _ L _ _ _ _ _ _ _ _ _ _ _ _ _ _ _ _ _ _ _ _ _ _ _ _ _ _ _ _ _ _ _ _ _ _ _ _ _ _ _ _ _ _ _ _ _ _ _ _ _ _ _ _ _ _ _ _ _ _ _ _ _ _ _ _ _ _ _ _ _ _ _ _ _ _ _ _ _ _ _ _ _ _ _ _ _ _ _ _ _ _ _ _ _ _ _ _ _ _ _ _ _ _ _ _ _ _ _ _ _ _ _ _ _ _ _ _ _ _ _ _ _ _ _ _ _ _ _ _ _ _ _ _ _ _ _ _ _ _ _ _ _ _ _ _ _ _ _ _ _ _ _ _ _ _ _ _ _ _ _ _ _ _ _ _ _ _ _ _ _ _ _ _ _ _ _ _ _ _ _ _ _ _ _ _ _ _ _ _ _ _ _ _ _ _ _ _ _ _ _ _ _ _ _ _ _ _ _ _ _ _ _ _ _ _ _ _ _ _ _ _ _ _ _ _ _ _ _ _ _ _ _ _ _ _ _ _ _ _ _ _ _ _ _ _ _ _ _ _ _ _ _ _ _ _ _ _ _ _ _ _ _ _ _ _ hP.out.head
  case neg =>
    have hcb : (c == 0) = false := by simpa using hc0
    have cB := Lib.hid (lHas_all B x vx L n1 a1 d1 n2 a2 d2 w5 hP.out.lam hz1 hz2 hz3 hz4)
    have hh : hasR L n1 a1 d1 n2 a2 d2 = false := by
      rw [hasR, ← hcE.out]
      simp [hc0]
    rw [hh] at cB
    clear hh hq
    have s0 : w5.cell? ⟨g6, 1, none⟩ = some (.bool n1) := hP.out.b6.cell 1
    have s1 : w5.cell? ⟨g6, 2, none⟩ = some (.string a1) := hP.out.b6.cell 2
    have s2 : w5.cell? ⟨g6, 3, none⟩ = some (.string d1) := hP.out.b6.cell 3
    have s3 : w5.cell? ⟨g6, 4, none⟩ = some (.bool n2) := hP.out.b6.cell 4
    have s4 : w5.cell? ⟨g6, 5, none⟩ = some (.string a2) := hP.out.b6.cell 5
    have s5 : w5.cell? ⟨g6, 6, none⟩ = some (.string d2) := hP.out.b6.cell 6
    go_wp2_with fail
    refine cB.out.mono ?_
    rintro en w6 ⟨rfl, hb⟩
    try dsimp only
    replace hP := Lib.hid (hP.out.below hb)
    clear hb cB s0 s1 s2 s3 s4 s5
    go_wp2_with fail
    exact hQ.out x vx _ L _ _ _ _ _ _ _ _ _ _ _ _ _ _ _ _ _ _ _ _ _ _ _ _ _ _ _ _ _ _ _ _ _ _ _ _ _ _ _ _ _ _ _ _ _ _ _ _ _ _ _ _ _ _ _ _ _ _ _ _ _ _ _ _ _ _ _ _ _ _ _ _ _ _ _ _ _ _ _ _ _ _ _ _ _ _ _ _ _ _ _ _ _ _ _ _ _ _ _ _ _ _ _ _ _ _ _ _ _ _ _ _ _ _ _ _ _ _ _ _ _ _ _ _ _ _ _ _ _ _ _ _ _ _ _ _ _ _ _ _ _ _ _ _ _ _ _ _ _ _ _ _ _ _ _ _ _ _ _ _ _ _ _ _ _ _ _ _ _ _ _ _ _ _ _ _ _ _ _ _ _ _ _ _ _ _ _ _ _ _ _ _ _ _ _ _ _ _ _ _ _ _ _ _ _ _ _ _ _ _ _ _ _ _ _ _ _ _ _ _ _ _ _ _ _ _ _ _ _ _ _ _ _ _ _ _ _ _ _ _ _ _ _ _ _ _ _ _ _ _ _ _ _ _ _ _ _ _ _ _ _ _ _ _ hP.out.head
set_option maxRecDepth 100000 in
set_option maxHeartbeats 16000000 in
theorem plays_other (c1 c9 c10 c11 c12 c13 c14 c15 c16 c17 c18 c19 c20 c21 c22 c23 c24 c25 c26 c27 c28 c29 c30 c31 c32 c33 c34 c35 c36 c37 c38 c39 c40 c41 c42 c43 c44 c45 c46 c47 c48 c50 c51 c52 c53 c54 c55 c56 c57 c58 c59 c60 c61 c62 c63 c64 c65 c66 c67 c68 c69 c70 c71 c72 c73 c74 c75 c76 c77 c78 c79 c80 c81 c82 c83 c84 c85 c86 c87 c88 c89 c90 c91 c92 c93 c94 c95 c96 c97 c98 c99 c100 c101 c102 c103 c104 c105 c106 c107 c108 c109 c110 c111 c112 c113 c114 c115 c116 c117 c118 c119 c120 c121 c122 c123 c124 c125 c126 c127 c128 c129 c130 c131 c132 c133 c134 c135 c136 c137 c138 c139 c140 c141 c142 c143 c144 c145 c146 c147 c148 c149 c150 c151 c152 c153 c154 c155 c156 c157 c158 c159 c160 c161 c162 c163 c164 c165 c166 c167 c168 c169 c170 c171 c172 c173 c174 c175 c176 c177 c178 c179 c180 c181 c182 c183 c184 c185 c186 c187 c188 c189 c190 c191 c192 c193 c194 c195 c196 c197 c198 c199 c200 c201 c202 c203 c204 c205 c206 c207 c208 c209 c210 c211 c212 c213 c214 c215 c216 c217 c218 c219 c220 c221 c222 c223 c224 c225 c226 c227 c228 c229 c230 c231 c232 c233 c234 c235 c236 c237 c238 c239 c240 c241 c242 c243 c244 c245 c246 c247 c248 c249 c250 c251 c252 c253 c254 c255 c256 c257 c258 c259 c260 c261 c262 c263 c264 c265 c266 c267 c268 c269 c270 c271 c272 c273 c274 c275 c276 c277 c278 c279 c280 c281 c282 c283 c284 c285 c286 c287 c288 c289 c290 c291 c292 c293 c294 c295 c296 c297 c298 c299 c300 c301 : Value) (gs so n sc g2 g4 g6 g7 x i B : Nat) (vx wv : Value) (L : List Lf) (ds : List Deferred) (w w5 : World) (dz nz c q0 q1 q2 q3 : Int) (n1 : Bool) (a1 d1 : ByteArray) (n2 : Bool) (a2 d2 : ByteArray) (Q : Exit → Act → World → Prop) (e0 : (dz == 0) = false) (e1 : (dz == 1) = false) (e2 : (dz == 2) = false) (e3 : (dz == 3) = false) (e4 : (dz == 4) = false) (e5 : (dz == 5) = false) (e6 : (dz == 6) = false) (e7 : (dz == 7) = false)
    (hz1 : a1.size ≤ 9223372036854775807) (hz2 : d1.size ≤ 9223372036854775807) (hz3 : a2.size ≤ 9223372036854775807) (hz4 : d2.size ≤ 9223372036854775807)
    (hq : Hid (c = 0 → ∃ l : Lf, Lfp l ∧ n1 = false ∧ a1 = natS l.1.1 ∧ d1 = natS l.1.2 ∧ n2 = false ∧ a2 = natS l.2.1 ∧ d2 = natS l.2.2 ∧ #[Value.int .u64 q0, .int .u64 q1, .int .u64 q2, .int .u64 q3] = #[.int .u64 (l.1.1 : Int), .int .u64 (l.1.2 : Int), .int .u64 (l.2.1 : Int), .int .u64 (l.2.2 : Int)]))
    (hcE : Hid (c = chkLf n1 a1 d1 n2 a2 d2)) (hP : Hid (PlS B g2 g4 g6 g7 x vx wv L L #[.int .i64 dz, .bool n1, .string a1, .string d1, .bool n2, .string a2, .string d2, .int .i64 nz] #[.int .u64 q0, .int .u64 q1, .int .u64 q2, .int .u64 q3] ds w w5))
    (hQ : ∀ (y : Nat) (vy wy : Value) (L' : List Lf) (u8 u9 u10 u11 u12 u13 u14 u15 u16 u17 u18 u19 u20 u21 u22 u23 u24 u50 u51 u52 u53 u54 u55 u56 u57 u58 u59 u60 u61 u62 u63 u64 u65 u66 u67 u68 u69 u70 u71 u72 u73 u74 u75 u76 u77 u78 u79 u80 u81 u82 u83 u84 u85 u86 u87 u88 u89 u90 u91 u92 u93 u94 u95 u96 u97 u98 u99 u100 u101 u102 u103 u104 u105 u106 u107 u108 u109 u110 u111 u112 u113 u114 u115 u116 u117 u118 u119 u120 u121 u122 u123 u124 u125 u126 u127 u128 u129 u130 u131 u132 u133 u134 u135 u136 u137 u138 u139 u140 u141 u142 u143 u144 u145 u146 u147 u148 u149 u150 u151 u152 u153 u154 u155 u156 u157 u158 u159 u160 u161 u162 u163 u164 u165 u166 u167 u168 u169 u170 u171 u172 u173 u174 u175 u176 u177 u178 u179 u180 u181 u182 u183 u184 u185 u186 u187 u188 u189 u190 u191 u192 u193 u194 u195 u196 u197 u198 u199 u200 u201 u202 u203 u204 u205 u206 u207 u208 u209 u210 u211 u212 u213 u214 u215 u216 u217 u218 u219 u220 u221 u222 u223 u224 u225 u226 u227 u228 u229 u230 u231 u232 u233 u234 u235 u236 u237 u238 u239 u240 u241 u242 u243 u244 u245 u246 u247 u248 u249 u250 u251 u252 u253 u254 u255 u256 u257 u258 u259 u260 u261 u262 u263 u264 u265 u266 u267 u268 u269 u270 u271 u272 u273 u274 u275 u276 u277 u278 u279 u280 u281 u282 u283 u284 u285 u286 u287 u288 u289 u290 u291 u292 u293 u294 : Value) (es : List Deferred) (W : World), PlH B g2 g4 y vy wy L' es w W → Q .normal { tmps := #[.slice (some ⟨gs, so, none⟩) n sc, c1, .pointer (some ⟨g2, 0, none⟩), .pointer (some ⟨y, 0, none⟩), .pointer (some ⟨g4, 0, none⟩), .int .i64 (i : Int), .pointer (some ⟨g6, 0, none⟩), .pointer (some ⟨g7, 0, none⟩), u8, u9, u10, u11, u12, u13, u14, u15, u16, u17, u18, u19, u20, u21, u22, u23, u24, c25, c26, c27, c28, c29, c30, c31, c32, c33, c34, c35, c36, c37, c38, c39, c40, c41, c42, c43, c44, c45, c46, c47, c48, .int .i64 dz, u50, u51, u52, u53, u54, u55, u56, u57, u58, u59, u60, u61, u62, u63, u64, u65, u66, u67, u68, u69, u70, u71, u72, u73, u74, u75, u76, u77, u78, u79, u80, u81, u82, u83, u84, u85, u86, u87, u88, u89, u90, u91, u92, u93, u94, u95, u96, u97, u98, u99, u100, u101, u102, u103, u104, u105, u106, u107, u108, u109, u110, u111, u112, u113, u114, u115, u116, u117, u118, u119, u120, u121, u122, u123, u124, u125, u126, u127, u128, u129, u130, u131, u132, u133, u134, u135, u136, u137, u138, u139, u140, u141, u142, u143, u144, u145, u146, u147, u148, u149, u150, u151, u152, u153, u154, u155, u156, u157, u158, u159, u160, u161, u162, u163, u164, u165, u166, u167, u168, u169, u170, u171, u172, u173, u174, u175, u176, u177, u178, u179, u180, u181, u182, u183, u184, u185, u186, u187, u188, u189, u190, u191, u192, u193, u194, u195, u196, u197, u198, u199, u200, u201, u202, u203, u204, u205, u206, u207, u208, u209, u210, u211, u212, u213, u214, u215, u216, u217, u218, u219, u220, u221, u222, u223, u224, u225, u226, u227, u228, u229, u230, u231, u232, u233, u234, u235, u236, u237, u238, u239, u240, u241, u242, u243, u244, u245, u246, u247, u248, u249, u250, u251, u252, u253, u254, u255, u256, u257, u258, u259, u260, u261, u262, u263, u264, u265, u266, u267, u268, u269, u270, u271, u272, u273, u274, u275, u276, u277, u278, u279, u280, u281, u282, u283, u284, u285, u286, u287, u288, u289, u290, u291, u292, u293, u294, c295, c296, c297, c298, c299, c300, c301], defers := es } W) :
    Code.wp Tryz.prog swCode Q { tmps := #[.slice (some ⟨gs, so, none⟩) n sc, c1, .pointer (some ⟨g2, 0, none⟩), .pointer (some ⟨x, 0, none⟩), .pointer (some ⟨g4, 0, none⟩), .int .i64 (i : Int), .pointer (some ⟨g6, 0, none⟩), .pointer (some ⟨g7, 0, none⟩), .int .i64 c, c9, c10, c11, c12, c13, c14, c15, c16, c17, c18, c19, c20, c21, c22, c23, c24, c25, c26, c27, c28, c29, c30, c31, c32, c33, c34, c35, c36, c37, c38, c39, c40, c41, c42, c43, c44, c45, c46, c47, c48, .int .i64 dz, c50, c51, c52, c53, c54, c55, c56, c57, c58, c59, c60, c61, c62, c63, c64, c65, c66, c67, c68, c69, c70, c71, c72, c73, c74, c75, c76, c77, c78, c79, c80, c81, c82, c83, c84, c85, c86, c87, c88, c89, c90, c91, c92, c93, c94, c95, c96, c97, c98, c99, c100, c101, c102, c103, c104, c105, c106, c107, c108, c109, c110, c111, c112, c113, c114, c115, c116, c117, c118, c119, c120, c121, c122, c123, c124, c125, c126, c127, c128, c129, c130, c131, c132, c133, c134, c135, c136, c137, c138, c139, c140, c141, c142, c143, c144, c145, c146, c147, c148, c149, c150, c151, c152, c153, c154, c155, c156, c157, c158, c159, c160, c161, c162, c163, c164, c165, c166, c167, c168, c169, c170, c171, c172, c173, c174, c175, c176, c177, c178, c179, c180, c181, c182, c183, c184, c185, c186, c187, c188, c189, c190, c191, c192, c193, c194, c195, c196, c197, c198, c199, c200, c201, c202, c203, c204, c205, c206, c207, c208, c209, c210, c211, c212, c213, c214, c215, c216, c217, c218, c219, c220, c221, c222, c223, c224, c225, c226, c227, c228, c229, c230, c231, c232, c233, c234, c235, c236, c237, c238, c239, c240, c241, c242, c243, c244, c245, c246, c247, c248, c249, c250, c251, c252, c253, c254, c255, c256, c257, c258, c259, c260, c261, c262, c263, c264, c265, c266, c267, c268, c269, c270, c271, c272, c273, c274, c275, c276, c277, c278, c279, c280, c281, c282, c283, c284, c285, c286, c287, c288, c289, c290, c291, c292, c293, c294, c295, c296, c297, c298, c299, c300, c301], defers := ds } w5 := by
  conv => arg 2; whnf
  have hQ := Lib.hid hQ
  go_wp2_with fail
  exact hQ.out x vx _ L _ _ _ _ _ _ _ _ _ _ _ _ _ _ _ _ _ _ _ _ _ _ _ _ _ _ _ _ _ _ _ _ _ _ _ _ _ _ _ _ _ _ _ _ _ _ _ _ _ _ _ _ _ _ _ _ _ _ _ _ _ _ _ _ _ _ _ _ _ _ _ _ _ _ _ _ _ _ _ _ _ _ _ _ _ _ _ _ _ _ _ _ _ _ _ _ _ _ _ _ _ _ _ _ _ _ _ _ _ _ _ _ _ _ _ _ _ _ _ _ _ _ _ _ _ _ _ _ _ _ _ _ _ _ _ _ _ _ _ _ _ _ _ _ _ _ _ _ _ _ _ _ _ _ _ _ _ _ _ _ _ _ _ _ _ _ _ _ _ _ _ _ _ _ _ _ _ _ _ _ _ _ _ _ _ _ _ _ _ _ _ _ _ _ _ _ _ _ _ _ _ _ _ _ _ _ _ _ _ _ _ _ _ _ _ _ _ _ _ _ _ _ _ _ _ _ _ _ _ _ _ _ _ _ _ _ _ _ _ _ _ _ _ _ _ _ _ _ _ _ _ _ _ _ _ _ _ _ _ _ _ _ _ _ hP.out.head
open Go.RowKit Go.Sort
attribute [local go_sem] Oper.semAt_some
set_option maxRecDepth 100000 in
set_option maxHeartbeats 16000000 in
theorem plays_apart (c1 c9 c10 c11 c12 c13 c14 c15 c16 c17 c18 c19 c20 c21 c22 c23 c24 c25 c26 c27 c28 c29 c30 c31 c32 c33 c34 c35 c36 c37 c38 c39 c40 c41 c42 c43 c44 c45 c46 c47 c48 c50 c51 c52 c53 c54 c55 c56 c57 c58 c59 c60 c61 c62 c63 c64 c65 c66 c67 c68 c69 c70 c71 c72 c73 c74 c75 c76 c77 c78 c79 c80 c81 c82 c83 c84 c85 c86 c87 c88 c89 c90 c91 c92 c93 c94 c95 c96 c97 c98 c99 c100 c101 c102 c103 c104 c105 c106 c107 c108 c109 c110 c111 c112 c113 c114 c115 c116 c117 c118 c119 c120 c121 c122 c123 c124 c125 c126 c127 c128 c129 c130 c131 c132 c133 c134 c135 c136 c137 c138 c139 c140 c141 c142 c143 c144 c145 c146 c147 c148 c149 c150 c151 c152 c153 c154 c155 c156 c157 c158 c159 c160 c161 c162 c163 c164 c165 c166 c167 c168 c169 c170 c171 c172 c173 c174 c175 c176 c177 c178 c179 c180 c181 c182 c183 c184 c185 c186 c187 c188 c189 c190 c191 c192 c193 c194 c195 c196 c197 c198 c199 c200 c201 c202 c203 c204 c205 c206 c207 c208 c209 c210 c211 c212 c213 c214 c215 c216 c217 c218 c219 c220 c221 c222 c223 c224 c225 c226 c227 c228 c229 c230 c231 c232 c233 c234 c235 c236 c237 c238 c239 c240 c241 c242 c243 c244 c245 c246 c247 c248 c249 c250 c251 c252 c253 c254 c255 c256 c257 c258 c259 c260 c261 c262 c263 c264 c265 c266 c267 c268 c269 c270 c271 c272 c273 c274 c275 c276 c277 c278 c279 c280 c281 c282 c283 c284 c285 c286 c287 c288 c289 c290 c291 c292 c293 c294 c295 c296 c297 c298 c299 c300 c301 : Value) (gs so n sc g2 g4 g6 g7 x i B : Nat) (vx wv : Value) (L : List Lf) (ds : List Deferred) (w w5 : World) (nz c q0 q1 q2 q3 : Int) (n1 : Bool) (a1 d1 : ByteArray) (n2 : Bool) (a2 d2 : ByteArray) (Q : Exit → Act → World → Prop)
    (hz1 : a1.size ≤ 9223372036854775807) (hz2 : d1.size ≤ 9223372036854775807) (hz3 : a2.size ≤ 9223372036854775807) (hz4 : d2.size ≤ 9223372036854775807)
    (hq : Hid (c = 0 → ∃ l : Lf, Lfp l ∧ n1 = false ∧ a1 = natS l.1.1 ∧ d1 = natS l.1.2 ∧ n2 = false ∧ a2 = natS l.2.1 ∧ d2 = natS l.2.2 ∧ #[Value.int .u64 q0, .int .u64 q1, .int .u64 q2, .int .u64 q3] = #[.int .u64 (l.1.1 : Int), .int .u64 (l.1.2 : Int), .int .u64 (l.2.1 : Int), .int .u64 (l.2.2 : Int)]))
    (hcE : Hid (c = chkLf n1 a1 d1 n2 a2 d2)) (hP : Hid (PlS B g2 g4 g6 g7 x vx wv L L #[.int .i64 2, .bool n1, .string a1, .string d1, .bool n2, .string a2, .string d2, .int .i64 nz] #[.int .u64 q0, .int .u64 q1, .int .u64 q2, .int .u64 q3] ds w w5))
    (hQ : ∀ (y : Nat) (vy wy : Value) (L' : List Lf) (u8 u9 u10 u11 u12 u13 u14 u15 u16 u17 u18 u19 u20 u21 u22 u23 u24 u50 u51 u52 u53 u54 u55 u56 u57 u58 u59 u60 u61 u62 u63 u64 u65 u66 u67 u68 u69 u70 u71 u72 u73 u74 u75 u76 u77 u78 u79 u80 u81 u82 u83 u84 u85 u86 u87 u88 u89 u90 u91 u92 u93 u94 u95 u96 u97 u98 u99 u100 u101 u102 u103 u104 u105 u106 u107 u108 u109 u110 u111 u112 u113 u114 u115 u116 u117 u118 u119 u120 u121 u122 u123 u124 u125 u126 u127 u128 u129 u130 u131 u132 u133 u134 u135 u136 u137 u138 u139 u140 u141 u142 u143 u144 u145 u146 u147 u148 u149 u150 u151 u152 u153 u154 u155 u156 u157 u158 u159 u160 u161 u162 u163 u164 u165 u166 u167 u168 u169 u170 u171 u172 u173 u174 u175 u176 u177 u178 u179 u180 u181 u182 u183 u184 u185 u186 u187 u188 u189 u190 u191 u192 u193 u194 u195 u196 u197 u198 u199 u200 u201 u202 u203 u204 u205 u206 u207 u208 u209 u210 u211 u212 u213 u214 u215 u216 u217 u218 u219 u220 u221 u222 u223 u224 u225 u226 u227 u228 u229 u230 u231 u232 u233 u234 u235 u236 u237 u238 u239 u240 u241 u242 u243 u244 u245 u246 u247 u248 u249 u250 u251 u252 u253 u254 u255 u256 u257 u258 u259 u260 u261 u262 u263 u264 u265 u266 u267 u268 u269 u270 u271 u272 u273 u274 u275 u276 u277 u278 u279 u280 u281 u282 u283 u284 u285 u286 u287 u288 u289 u290 u291 u292 u293 u294 : Value) (es : List Deferred) (W : World), PlH B g2 g4 y vy wy L' es w W → Q .normal { tmps := #[.slice (some ⟨gs, so, none⟩) n sc, c1, .pointer (some ⟨g2, 0, none⟩), .pointer (some ⟨y, 0, none⟩), .pointer (some ⟨g4, 0, none⟩), .int .i64 (i : Int), .pointer (some ⟨g6, 0, none⟩), .pointer (some ⟨g7, 0, none⟩), u8, u9, u10, u11, u12, u13, u14, u15, u16, u17, u18, u19, u20, u21, u22, u23, u24, c25, c26, c27, c28, c29, c30, c31, c32, c33, c34, c35, c36, c37, c38, c39, c40, c41, c42, c43, c44, c45, c46, c47, c48, .int .i64 2, u50, u51, u52, u53, u54, u55, u56, u57, u58, u59, u60, u61, u62, u63, u64, u65, u66, u67, u68, u69, u70, u71, u72, u73, u74, u75, u76, u77, u78, u79, u80, u81, u82, u83, u84, u85, u86, u87, u88, u89, u90, u91, u92, u93, u94, u95, u96, u97, u98, u99, u100, u101, u102, u103, u104, u105, u106, u107, u108, u109, u110, u111, u112, u113, u114, u115, u116, u117, u118, u119, u120, u121, u122, u123, u124, u125, u126, u127, u128, u129, u130, u131, u132, u133, u134, u135, u136, u137, u138, u139, u140, u141, u142, u143, u144, u145, u146, u147, u148, u149, u150, u151, u152, u153, u154, u155, u156, u157, u158, u159, u160, u161, u162, u163, u164, u165, u166, u167, u168, u169, u170, u171, u172, u173, u174, u175, u176, u177, u178, u179, u180, u181, u182, u183, u184, u185, u186, u187, u188, u189, u190, u191, u192, u193, u194, u195, u196, u197, u198, u199, u200, u201, u202, u203, u204, u205, u206, u207, u208, u209, u210, u211, u212, u213, u214, u215, u216, u217, u218, u219, u220, u221, u222, u223, u224, u225, u226, u227, u228, u229, u230, u231, u232, u233, u234, u235, u236, u237, u238, u239, u240, u241, u242, u243, u244, u245, u246, u247, u248, u249, u250, u251, u252, u253, u254, u255, u256, u257, u258, u259, u260, u261, u262, u263, u264, u265, u266, u267, u268, u269, u270, u271, u272, u273, u274, u275, u276, u277, u278, u279, u280, u281, u282, u283, u284, u285, u286, u287, u288, u289, u290, u291, u292, u293, u294, c295, c296, c297, c298, c299, c300, c301], defers := es } W) :
    Code.wp Tryz.prog swCode Q { tmps := #[.slice (some ⟨gs, so, none⟩) n sc, c1, .pointer (some ⟨g2, 0, none⟩), .pointer (some ⟨x, 0, none⟩), .pointer (some ⟨g4, 0, none⟩), .int .i64 (i : Int), .pointer (some ⟨g6, 0, none⟩), .pointer (some ⟨g7, 0, none⟩), .int .i64 c, c9, c10, c11, c12, c13, c14, c15, c16, c17, c18, c19, c20, c21, c22, c23, c24, c25, c26, c27, c28, c29, c30, c31, c32, c33, c34, c35, c36, c37, c38, c39, c40, c41, c42, c43, c44, c45, c46, c47, c48, .int .i64 2, c50, c51, c52, c53, c54, c55, c56, c57, c58, c59, c60, c61, c62, c63, c64, c65, c66, c67, c68, c69, c70, c71, c72, c73, c74, c75, c76, c77, c78, c79, c80, c81, c82, c83, c84, c85, c86, c87, c88, c89, c90, c91, c92, c93, c94, c95, c96, c97, c98, c99, c100, c101, c102, c103, c104, c105, c106, c107, c108, c109, c110, c111, c112, c113, c114, c115, c116, c117, c118, c119, c120, c121, c122, c123, c124, c125, c126, c127, c128, c129, c130, c131, c132, c133, c134, c135, c136, c137, c138, c139, c140, c141, c142, c143, c144, c145, c146, c147, c148, c149, c150, c151, c152, c153, c154, c155, c156, c157, c158, c159, c160, c161, c162, c163, c164, c165, c166, c167, c168, c169, c170, c171, c172, c173, c174, c175, c176, c177, c178, c179, c180, c181, c182, c183, c184, c185, c186, c187, c188, c189, c190, c191, c192, c193, c194, c195, c196, c197, c198, c199, c200, c201, c202, c203, c204, c205, c206, c207, c208, c209, c210, c211, c212, c213, c214, c215, c216, c217, c218, c219, c220, c221, c222, c223, c224, c225, c226, c227, c228, c229, c230, c231, c232, c233, c234, c235, c236, c237, c238, c239, c240, c241, c242, c243, c244, c245, c246, c247, c248, c249, c250, c251, c252, c253, c254, c255, c256, c257, c258, c259, c260, c261, c262, c263, c264, c265, c266, c267, c268, c269, c270, c271, c272, c273, c274, c275, c276, c277, c278, c279, c280, c281, c282, c283, c284, c285, c286, c287, c288, c289, c290, c291, c292, c293, c294, c295, c296, c297, c298, c299, c300, c301], defers := ds } w5 := by
  conv => arg 2; whnf
  have hQ := Lib.hid hQ
  have s0 : w5.cell? ⟨g6, 1, none⟩ = some (.bool n1) := hP.out.b6.cell 1
  have s1 : w5.cell? ⟨g6, 2, none⟩ = some (.string a1) := hP.out.b6.cell 2
  have s2 : w5.cell? ⟨g6, 3, none⟩ = some (.string d1) := hP.out.b6.cell 3
  have s3 : w5.cell? ⟨g6, 4, none⟩ = some (.bool n2) := hP.out.b6.cell 4
  have s4 : w5.cell? ⟨g6, 5, none⟩ = some (.string a2) := hP.out.b6.cell 5
  have s5 : w5.cell? ⟨g6, 6, none⟩ = some (.string d2) := hP.out.b6.cell 6
  have cB := Lib.hid (lApart_any B x vx L n1 a1 d1 n2 a2 d2 w5 hP.out.lam hz1 hz2 hz3 hz4)
  obtain ⟨pb, hpb⟩ : ∃ b, b = (apartR L n1 a1 d1 n2 a2 d2).1 := ⟨_, rfl⟩
  obtain ⟨pe, hpe⟩ : ∃ b, b = (apartR L n1 a1 d1 n2 a2 d2).2 := ⟨_, rfl⟩
  rw [← hpb, ← hpe] at cB
  have cO1 := Lib.hid (fun W => rof_any n1 a1 d1 W hz1 hz2)
  have cO2 := Lib.hid (fun W => rof_any n2 a2 d2 W hz3 hz4)
  obtain ⟨y1, z1, hs1, hq1⟩ := smallV_form n1 a1 d1
  obtain ⟨y2, z2, hs2, hq2⟩ := smallV_form n2 a2 d2
  rw [hs1] at cO1
  rw [hs2] at cO2
  obtain ⟨b1, hb1⟩ : ∃ b, b = okA n1 a1 d1 := ⟨_, rfl⟩
  obtain ⟨b2, hb2⟩ : ∃ b, b = okA n2 a2 d2 := ⟨_, rfl⟩
  rw [← hb1] at cO1 hq1
  rw [← hb2] at cO2 hq2
  replace hb1 := Lib.hid hb1
  replace hb2 := Lib.hid hb2
  replace hpb := Lib.hid hpb
  replace hpe := Lib.hid hpe
  replace hq1 := Lib.hid hq1
  replace hq2 := Lib.hid hq2
  clear hs1 hs2 hq
  go_wp2_with fail
  refine cB.out.mono ?_
  rintro en w6 ⟨rfl, hb⟩
  try dsimp only
  replace hP := Lib.hid (hP.out.below hb)
  clear hb cB s0 s1 s2 s3 s4 s5
  have s0 : w6.cell? ⟨g6, 1, none⟩ = some (.bool n1) := hP.out.b6.cell 1
  have s1 : w6.cell? ⟨g6, 2, none⟩ = some (.string a1) := hP.out.b6.cell 2
  have s2 : w6.cell? ⟨g6, 3, none⟩ = some (.string d1) := hP.out.b6.cell 3
  go_wp2_with fail
  refine (cO1.out _).mono ?_
  rintro en w7 ⟨rfl, hb⟩
  try dsimp only
  replace hP := Lib.hid (hP.out.below hb)
  clear hb cO1 s0 s1 s2
  go_upto_region 24 with fail
  have k11 := Blk.new w7 42 #[.int .u64 (y1 : Int), .int .u64 (z1 : Int)]
  replace hP := Lib.hid (hP.out.alloc (.cells #[.int .u64 (y1 : Int), .int .u64 (z1 : Int)] 42))
  generalize hW : w7.alloc (.cells #[.int .u64 (y1 : Int), .int .u64 (z1 : Int)] 42) = w8 at hP k11 ⊢
  generalize hgg : w7.heap.size = g11 at k11 ⊢
  clear hW hgg
  replace k11 := Lib.hid k11
  have s0 : w8.cell? ⟨g6, 4, none⟩ = some (.bool n2) := hP.out.b6.cell 4
  have s1 : w8.cell? ⟨g6, 5, none⟩ = some (.string a2) := hP.out.b6.cell 5
  have s2 : w8.cell? ⟨g6, 6, none⟩ = some (.string d2) := hP.out.b6.cell 6
  go_wp2_with fail
  refine (cO2.out _).mono ?_
  rintro en w9 ⟨rfl, hb⟩
  try dsimp only
  replace hP := Lib.hid (hP.out.below hb)
  replace k11 := Lib.hid (k11.out.below hb)
  clear hb cO2 s0 s1 s2
  go_upto_region 25 with fail
  have k13 := Blk.new w9 42 #[.int .u64 (y2 : Int), .int .u64 (z2 : Int)]
  replace hP := Lib.hid (hP.out.alloc (.cells #[.int .u64 (y2 : Int), .int .u64 (z2 : Int)] 42))
  replace k11 := Lib.hid (k11.out.alloc (.cells #[.int .u64 (y2 : Int), .int .u64 (z2 : Int)] 42))
  generalize hW : w9.alloc (.cells #[.int .u64 (y2 : Int), .int .u64 (z2 : Int)] 42) = wA at hP k11 k13 ⊢
  generalize hgg : w9.heap.size = g13 at k13 ⊢
  clear hW hgg
  replace k13 := Lib.hid k13
  have hbad : Hid (b1 = false ∨ b2 = false → pb = false ∧ pe = 210) := Lib.hid (fun h => by
    have e : apartR L n1 a1 d1 n2 a2 d2 = (false, 210) := by
      unfold apartR
      rw [← hb1.out, ← hb2.out]
      rcases h with h | h
      · rw [h]; rfl
      · rw [h]; cases b1 <;> rfl
    rw [hpb.out, hpe.out, e]
    exact ⟨rfl, rfl⟩)
  cases b1
  case false =>
    obtain ⟨rfl, rfl⟩ := hbad.out (.inl rfl)
    clear hbad
    go_wp2_with fail
    exact hQ.out x vx _ L _ _ _ _ _ _ _ _ _ _ _ _ _ _ _ _ _ _ _ _ _ _ _ _ _ _ _ _ _ _ _ _ _ _ _ _ _ _ _ _ _ _ _ _ _ _ _ _ _ _ _ _ _ _ _ _ _ _ _ _ _ _ _ _ _ _ _ _ _ _ _ _ _ _ _ _ _ _ _ _ _ _ _ _ _ _ _ _ _ _ _ _ _ _ _ _ _ _ _ _ _ _ _ _ _ _ _ _ _ _ _ _ _ _ _ _ _ _ _ _ _ _ _ _ _ _ _ _ _ _ _ _ _ _ _ _ _ _ _ _ _ _ _ _ _ _ _ _ _ _ _ _ _ _ _ _ _ _ _ _ _ _ _ _ _ _ _ _ _ _ _ _ _ _ _ _ _ _ _ _ _ _ _ _ _ _ _ _ _ _ _ _ _ _ _ _ _ _ _ _ _ _ _ _ _ _ _ _ _ _ _ _ _ _ _ _ _ _ _ _ _ _ _ _ _ _ _ _ _ _ _ _ _ _ _ _ _ _ _ _ _ _ _ _ _ _ _ _ _ _ _ _ _ _ _ _ _ _ _ _ _ _ _ _ hP.out.head
  case true =>
    cases b2
    case false =>
      obtain ⟨rfl, rfl⟩ := hbad.out (.inr rfl)
      clear hbad
      go_wp2_with fail
      exact hQ.out x vx _ L _ _ _ _ _ _ _ _ _ _ _ _ _ _ _ _ _ _ _ _ _ _ _ _ _ _ _ _ _ _ _ _ _ _ _ _ _ _ _ _ _ _ _ _ _ _ _ _ _ _ _ _ _ _ _ _ _ _ _ _ _ _ _ _ _ _ _ _ _ _ _ _ _ _ _ _ _ _ _ _ _ _ _ _ _ _ _ _ _ _ _ _ _ _ _ _ _ _ _ _ _ _ _ _ _ _ _ _ _ _ _ _ _ _ _ _ _ _ _ _ _ _ _ _ _ _ _ _ _ _ _ _ _ _ _ _ _ _ _ _ _ _ _ _ _ _ _ _ _ _ _ _ _ _ _ _ _ _ _ _ _ _ _ _ _ _ _ _ _ _ _ _ _ _ _ _ _ _ _ _ _ _ _ _ _ _ _ _ _ _ _ _ _ _ _ _ _ _ _ _ _ _ _ _ _ _ _ _ _ _ _ _ _ _ _ _ _ _ _ _ _ _ _ _ _ _ _ _ _ _ _ _ _ _ _ _ _ _ _ _ _ _ _ _ _ _ _ _ _ _ _ _ _ _ _ _ _ _ _ _ _ _ _ _ hP.out.head
    case true =>
      obtain ⟨p, hp⟩ : ∃ p : PT, p = (y1, z1) := ⟨_, rfl⟩
      obtain ⟨q, hqq⟩ : ∃ p : PT, p = (y2, z2) := ⟨_, rfl⟩
      have hpA : Ang p := by rw [hp, (hq1.out rfl).1, (hq1.out rfl).2.1]; exact (Ang.of_ok hb1.out.symm).1
      have hqA : Ang q := by rw [hqq, (hq2.out rfl).1, (hq2.out rfl).2.1]; exact (Ang.of_ok hb2.out.symm).1
      have hok : Hid (pb = (L.any fun l => partsP l p q) ∧ pe = 0) := Lib.hid (by
        have e : apartR L n1 a1 d1 n2 a2 d2 = (L.any fun l => partsP l p q, 0) := by
          unfold apartR
          rw [← hb1.out, ← hb2.out, hp, hqq, (hq1.out rfl).1, (hq1.out rfl).2.1, (hq2.out rfl).1, (hq2.out rfl).2.1]
          rfl
        rw [hpb.out, hpe.out, e]
        exact ⟨rfl, rfl⟩)
      obtain rfl : pe = 0 := hok.out.2
      have ep1 : y1 = p.1 := by rw [hp]
      have ep2 : z1 = p.2 := by rw [hp]
      have eq1 : y2 = q.1 := by rw [hqq]
      have eq2 : z2 = q.2 := by rw [hqq]
      clear hp hqq hq1 hq2
      subst ep1 ep2 eq1 eq2
      have cR := Lib.hid (rlapart_any B wv L p q wA hP.out.row hP.out.lam.ok.ang hpA hqA (by have := hP.out.lam.len; omega))
      rw [← hok.out.1] at cR
      have b40 : wA.cell? ⟨g4, 0, none⟩ = some wv := hP.out.b4.cell 0
      have p0 : wA.cell? ⟨g11, 0, none⟩ = some (.int .u64 (p.1 : Int)) := k11.out.cell 0
      have p1 : wA.cell? ⟨g11, 1, none⟩ = some (.int .u64 (p.2 : Int)) := k11.out.cell 1
      have r0 : wA.cell? ⟨g13, 0, none⟩ = some (.int .u64 (q.1 : Int)) := k13.out.cell 0
      have r1 : wA.cell? ⟨g13, 1, none⟩ = some (.int .u64 (q.2 : Int)) := k13.out.cell 1
      have hbb : (pb != pb) = false := by cases pb <;> rfl
      clear hbad hok hpA hqA k11 k13
      go_wp2_with fail
      refine cR.out.mono ?_
      rintro en wB ⟨rfl, hb⟩
      try dsimp only
      replace hP := Lib.hid (hP.out.below hb)
      clear hb cR b40 p0 p1 r0 r1
      go_wp2_with fail
      exact hQ.out x vx _ L _ _ _ _ _ _ _ _ _ _ _ _ _ _ _ _ _ _ _ _ _ _ _ _ _ _ _ _ _ _ _ _ _ _ _ _ _ _ _ _ _ _ _ _ _ _ _ _ _ _ _ _ _ _ _ _ _ _ _ _ _ _ _ _ _ _ _ _ _ _ _ _ _ _ _ _ _ _ _ _ _ _ _ _ _ _ _ _ _ _ _ _ _ _ _ _ _ _ _ _ _ _ _ _ _ _ _ _ _ _ _ _ _ _ _ _ _ _ _ _ _ _ _ _ _ _ _ _ _ _ _ _ _ _ _ _ _ _ _ _ _ _ _ _ _ _ _ _ _ _ _ _ _ _ _ _ _ _ _ _ _ _ _ _ _ _ _ _ _ _ _ _ _ _ _ _ _ _ _ _ _ _ _ _ _ _ _ _ _ _ _ _ _ _ _ _ _ _ _ _ _ _ _ _ _ _ _ _ _ _ _ _ _ _ _ _ _ _ _ _ _ _ _ _ _ _ _ _ _ _ _ _ _ _ _ _ _ _ _ _ _ _ _ _ _ _ _ _ _ _ _ _ _ _ _ _ _ _ _ _ _ _ _ _ hP.out.head
set_option maxRecDepth 100000 in
set_option maxHeartbeats 16000000 in
theorem plays_copy (c1 c9 c10 c11 c12 c13 c14 c15 c16 c17 c18 c19 c20 c21 c22 c23 c24 c25 c26 c27 c28 c29 c30 c31 c32 c33 c34 c35 c36 c37 c38 c39 c40 c41 c42 c43 c44 c45 c46 c47 c48 c50 c51 c52 c53 c54 c55 c56 c57 c58 c59 c60 c61 c62 c63 c64 c65 c66 c67 c68 c69 c70 c71 c72 c73 c74 c75 c76 c77 c78 c79 c80 c81 c82 c83 c84 c85 c86 c87 c88 c89 c90 c91 c92 c93 c94 c95 c96 c97 c98 c99 c100 c101 c102 c103 c104 c105 c106 c107 c108 c109 c110 c111 c112 c113 c114 c115 c116 c117 c118 c119 c120 c121 c122 c123 c124 c125 c126 c127 c128 c129 c130 c131 c132 c133 c134 c135 c136 c137 c138 c139 c140 c141 c142 c143 c144 c145 c146 c147 c148 c149 c150 c151 c152 c153 c154 c155 c156 c157 c158 c159 c160 c161 c162 c163 c164 c165 c166 c167 c168 c169 c170 c171 c172 c173 c174 c175 c176 c177 c178 c179 c180 c181 c182 c183 c184 c185 c186 c187 c188 c189 c190 c191 c192 c193 c194 c195 c196 c197 c198 c199 c200 c201 c202 c203 c204 c205 c206 c207 c208 c209 c210 c211 c212 c213 c214 c215 c216 c217 c218 c219 c220 c221 c222 c223 c224 c225 c226 c227 c228 c229 c230 c231 c232 c233 c234 c235 c236 c237 c238 c239 c240 c241 c242 c243 c244 c245 c246 c247 c248 c249 c250 c251 c252 c253 c254 c255 c256 c257 c258 c259 c260 c261 c262 c263 c264 c265 c266 c267 c268 c269 c270 c271 c272 c273 c274 c275 c276 c277 c278 c279 c280 c281 c282 c283 c284 c285 c286 c287 c288 c289 c290 c291 c292 c293 c294 c295 c296 c297 c298 c299 c300 c301 : Value) (gs so n sc g2 g4 g6 g7 x i B : Nat) (vx wv : Value) (L : List Lf) (ds : List Deferred) (w w5 : World) (nz c q0 q1 q2 q3 : Int) (n1 : Bool) (a1 d1 : ByteArray) (n2 : Bool) (a2 d2 : ByteArray) (Q : Exit → Act → World → Prop)
    (hz1 : a1.size ≤ 9223372036854775807) (hz2 : d1.size ≤ 9223372036854775807) (hz3 : a2.size ≤ 9223372036854775807) (hz4 : d2.size ≤ 9223372036854775807)
    (hq : Hid (c = 0 → ∃ l : Lf, Lfp l ∧ n1 = false ∧ a1 = natS l.1.1 ∧ d1 = natS l.1.2 ∧ n2 = false ∧ a2 = natS l.2.1 ∧ d2 = natS l.2.2 ∧ #[Value.int .u64 q0, .int .u64 q1, .int .u64 q2, .int .u64 q3] = #[.int .u64 (l.1.1 : Int), .int .u64 (l.1.2 : Int), .int .u64 (l.2.1 : Int), .int .u64 (l.2.2 : Int)]))
    (hcE : Hid (c = chkLf n1 a1 d1 n2 a2 d2)) (hP : Hid (PlS B g2 g4 g6 g7 x vx wv L L #[.int .i64 6, .bool n1, .string a1, .string d1, .bool n2, .string a2, .string d2, .int .i64 nz] #[.int .u64 q0, .int .u64 q1, .int .u64 q2, .int .u64 q3] ds w w5))
    (hQ : ∀ (y : Nat) (vy wy : Value) (L' : List Lf) (u8 u9 u10 u11 u12 u13 u14 u15 u16 u17 u18 u19 u20 u21 u22 u23 u24 u50 u51 u52 u53 u54 u55 u56 u57 u58 u59 u60 u61 u62 u63 u64 u65 u66 u67 u68 u69 u70 u71 u72 u73 u74 u75 u76 u77 u78 u79 u80 u81 u82 u83 u84 u85 u86 u87 u88 u89 u90 u91 u92 u93 u94 u95 u96 u97 u98 u99 u100 u101 u102 u103 u104 u105 u106 u107 u108 u109 u110 u111 u112 u113 u114 u115 u116 u117 u118 u119 u120 u121 u122 u123 u124 u125 u126 u127 u128 u129 u130 u131 u132 u133 u134 u135 u136 u137 u138 u139 u140 u141 u142 u143 u144 u145 u146 u147 u148 u149 u150 u151 u152 u153 u154 u155 u156 u157 u158 u159 u160 u161 u162 u163 u164 u165 u166 u167 u168 u169 u170 u171 u172 u173 u174 u175 u176 u177 u178 u179 u180 u181 u182 u183 u184 u185 u186 u187 u188 u189 u190 u191 u192 u193 u194 u195 u196 u197 u198 u199 u200 u201 u202 u203 u204 u205 u206 u207 u208 u209 u210 u211 u212 u213 u214 u215 u216 u217 u218 u219 u220 u221 u222 u223 u224 u225 u226 u227 u228 u229 u230 u231 u232 u233 u234 u235 u236 u237 u238 u239 u240 u241 u242 u243 u244 u245 u246 u247 u248 u249 u250 u251 u252 u253 u254 u255 u256 u257 u258 u259 u260 u261 u262 u263 u264 u265 u266 u267 u268 u269 u270 u271 u272 u273 u274 u275 u276 u277 u278 u279 u280 u281 u282 u283 u284 u285 u286 u287 u288 u289 u290 u291 u292 u293 u294 : Value) (es : List Deferred) (W : World), PlH B g2 g4 y vy wy L' es w W → Q .normal { tmps := #[.slice (some ⟨gs, so, none⟩) n sc, c1, .pointer (some ⟨g2, 0, none⟩), .pointer (some ⟨y, 0, none⟩), .pointer (some ⟨g4, 0, none⟩), .int .i64 (i : Int), .pointer (some ⟨g6, 0, none⟩), .pointer (some ⟨g7, 0, none⟩), u8, u9, u10, u11, u12, u13, u14, u15, u16, u17, u18, u19, u20, u21, u22, u23, u24, c25, c26, c27, c28, c29, c30, c31, c32, c33, c34, c35, c36, c37, c38, c39, c40, c41, c42, c43, c44, c45, c46, c47, c48, .int .i64 6, u50, u51, u52, u53, u54, u55, u56, u57, u58, u59, u60, u61, u62, u63, u64, u65, u66, u67, u68, u69, u70, u71, u72, u73, u74, u75, u76, u77, u78, u79, u80, u81, u82, u83, u84, u85, u86, u87, u88, u89, u90, u91, u92, u93, u94, u95, u96, u97, u98, u99, u100, u101, u102, u103, u104, u105, u106, u107, u108, u109, u110, u111, u112, u113, u114, u115, u116, u117, u118, u119, u120, u121, u122, u123, u124, u125, u126, u127, u128, u129, u130, u131, u132, u133, u134, u135, u136, u137, u138, u139, u140, u141, u142, u143, u144, u145, u146, u147, u148, u149, u150, u151, u152, u153, u154, u155, u156, u157, u158, u159, u160, u161, u162, u163, u164, u165, u166, u167, u168, u169, u170, u171, u172, u173, u174, u175, u176, u177, u178, u179, u180, u181, u182, u183, u184, u185, u186, u187, u188, u189, u190, u191, u192, u193, u194, u195, u196, u197, u198, u199, u200, u201, u202, u203, u204, u205, u206, u207, u208, u209, u210, u211, u212, u213, u214, u215, u216, u217, u218, u219, u220, u221, u222, u223, u224, u225, u226, u227, u228, u229, u230, u231, u232, u233, u234, u235, u236, u237, u238, u239, u240, u241, u242, u243, u244, u245, u246, u247, u248, u249, u250, u251, u252, u253, u254, u255, u256, u257, u258, u259, u260, u261, u262, u263, u264, u265, u266, u267, u268, u269, u270, u271, u272, u273, u274, u275, u276, u277, u278, u279, u280, u281, u282, u283, u284, u285, u286, u287, u288, u289, u290, u291, u292, u293, u294, c295, c296, c297, c298, c299, c300, c301], defers := es } W) :
    Code.wp Tryz.prog swCode Q { tmps := #[.slice (some ⟨gs, so, none⟩) n sc, c1, .pointer (some ⟨g2, 0, none⟩), .pointer (some ⟨x, 0, none⟩), .pointer (some ⟨g4, 0, none⟩), .int .i64 (i : Int), .pointer (some ⟨g6, 0, none⟩), .pointer (some ⟨g7, 0, none⟩), .int .i64 c, c9, c10, c11, c12, c13, c14, c15, c16, c17, c18, c19, c20, c21, c22, c23, c24, c25, c26, c27, c28, c29, c30, c31, c32, c33, c34, c35, c36, c37, c38, c39, c40, c41, c42, c43, c44, c45, c46, c47, c48, .int .i64 6, c50, c51, c52, c53, c54, c55, c56, c57, c58, c59, c60, c61, c62, c63, c64, c65, c66, c67, c68, c69, c70, c71, c72, c73, c74, c75, c76, c77, c78, c79, c80, c81, c82, c83, c84, c85, c86, c87, c88, c89, c90, c91, c92, c93, c94, c95, c96, c97, c98, c99, c100, c101, c102, c103, c104, c105, c106, c107, c108, c109, c110, c111, c112, c113, c114, c115, c116, c117, c118, c119, c120, c121, c122, c123, c124, c125, c126, c127, c128, c129, c130, c131, c132, c133, c134, c135, c136, c137, c138, c139, c140, c141, c142, c143, c144, c145, c146, c147, c148, c149, c150, c151, c152, c153, c154, c155, c156, c157, c158, c159, c160, c161, c162, c163, c164, c165, c166, c167, c168, c169, c170, c171, c172, c173, c174, c175, c176, c177, c178, c179, c180, c181, c182, c183, c184, c185, c186, c187, c188, c189, c190, c191, c192, c193, c194, c195, c196, c197, c198, c199, c200, c201, c202, c203, c204, c205, c206, c207, c208, c209, c210, c211, c212, c213, c214, c215, c216, c217, c218, c219, c220, c221, c222, c223, c224, c225, c226, c227, c228, c229, c230, c231, c232, c233, c234, c235, c236, c237, c238, c239, c240, c241, c242, c243, c244, c245, c246, c247, c248, c249, c250, c251, c252, c253, c254, c255, c256, c257, c258, c259, c260, c261, c262, c263, c264, c265, c266, c267, c268, c269, c270, c271, c272, c273, c274, c275, c276, c277, c278, c279, c280, c281, c282, c283, c284, c285, c286, c287, c288, c289, c290, c291, c292, c293, c294, c295, c296, c297, c298, c299, c300, c301], defers := ds } w5 := by
  conv => arg 2; whnf
  have hQ := Lib.hid hQ
  have hC := Lib.hid (lCopy_any B x vx L w5 hP.out.lam)
  go_wp2_with fail
  refine hC.out.mono ?_
  rintro en w6 ⟨y, vy, rfl, hy, hb⟩
  try dsimp only
  have hxy : ¬ y = x := by have h1 := hy.lam.base; have h2 := hP.out.lam.lam.blk.lt; omega
  obtain ⟨jL, hjL, hjs⟩ := info_lamG
  have hpe := run_eql_ptr_other (P := Tryz.prog) w6 (tp := 63) (te := 103) Tryz.underlying63 hjL (by rw [hjs]; decide) (a := ⟨y, 0, none⟩) (b := ⟨x, 0, none⟩) (fun e => hxy (by injection e)) hy.lam.blk (hP.out.below hb).lam.lam.blk
  have hb5 := Lib.hid hb
  have hy5 := Lib.hid hy
  clear hb hC hy hjL hjs hxy
  have s0 : w6.cell? ⟨g6, 1, none⟩ = some (.bool n1) := (hP.out.below hb5.out).b6.cell 1
  have s1 : w6.cell? ⟨g6, 2, none⟩ = some (.string a1) := (hP.out.below hb5.out).b6.cell 2
  have s2 : w6.cell? ⟨g6, 3, none⟩ = some (.string d1) := (hP.out.below hb5.out).b6.cell 3
  have s3 : w6.cell? ⟨g6, 4, none⟩ = some (.bool n2) := (hP.out.below hb5.out).b6.cell 4
  have s4 : w6.cell? ⟨g6, 5, none⟩ = some (.string a2) := (hP.out.below hb5.out).b6.cell 5
  have s5 : w6.cell? ⟨g6, 6, none⟩ = some (.string d2) := (hP.out.below hb5.out).b6.cell 6
  have cB := Lib.hid (lAdd_any B x vx L n1 a1 d1 n2 a2 d2 w6 (hP.out.below hb5.out).lam hz1 hz2 hz3 hz4)
  clear hq
  go_wp2_with fail
  clear hpe
  refine cB.out.mono ?_
  rintro en w8 ⟨rfl, vx8, hl8, hbt⟩
  try dsimp only
  have hP8 := Lib.hid (hP.out.copy hb5.out hy5.out hbt hl8)
  clear hbt hl8 hP cB s0 s1 s2 s3 s4 s5 hb5 hy5
  have hP := hP8
  clear hP8
  go_wp2_with fail
  exact hQ.out y vy _ L _ _ _ _ _ _ _ _ _ _ _ _ _ _ _ _ _ _ _ _ _ _ _ _ _ _ _ _ _ _ _ _ _ _ _ _ _ _ _ _ _ _ _ _ _ _ _ _ _ _ _ _ _ _ _ _ _ _ _ _ _ _ _ _ _ _ _ _ _ _ _ _ _ _ _ _ _ _ _ _ _ _ _ _ _ _ _ _ _ _ _ _ _ _ _ _ _ _ _ _ _ _ _ _ _ _ _ _ _ _ _ _ _ _ _ _ _ _ _ _ _ _ _ _ _ _ _ _ _ _ _ _ _ _ _ _ _ _ _ _ _ _ _ _ _ _ _ _ _ _ _ _ _ _ _ _ _ _ _ _ _ _ _ _ _ _ _ _ _ _ _ _ _ _ _ _ _ _ _ _ _ _ _ _ _ _ _ _ _ _ _ _ _ _ _ _ _ _ _ _ _ _ _ _ _ _ _ _ _ _ _ _ _ _ _ _ _ _ _ _ _ _ _ _ _ _ _ _ _ _ _ _ _ _ _ _ _ _ _ _ _ _ _ _ _ _ _ _ _ _ _ _ _ _ _ _ _ _ _ _ _ _ _ _ hP.out.head
end Go.Proofs.YtoaggmegmgdgbaaGreat
