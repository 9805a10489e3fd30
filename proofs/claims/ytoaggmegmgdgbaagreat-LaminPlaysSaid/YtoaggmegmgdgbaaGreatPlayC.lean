import Derived.Test.YtoaggmegmgdgbaaGreatPlayH
import Derived.Deep.CutBlock
import Derived.Deep.CutRange
namespace Go.Proofs.YtoaggmegmgdgbaaGreat
open Go.RowKit Go.Sort
attribute [local go_sem] Oper.semAt_some
set_option maxRecDepth 100000 in
set_option maxHeartbeats 16000000 in
theorem plays_open (c1 c9 c10 c11 c12 c13 c14 c15 c16 c17 c18 c19 c20 c21 c22 c23 c24 c25 c26 c27 c28 c29 c30 c31 c32 c33 c34 c35 c36 c37 c38 c39 c40 c41 c42 c43 c44 c45 c46 c47 c48 c50 c51 c52 c53 c54 c55 c56 c57 c58 c59 c60 c61 c62 c63 c64 c65 c66 c67 c68 c69 c70 c71 c72 c73 c74 c75 c76 c77 c78 c79 c80 c81 c82 c83 c84 c85 c86 c87 c88 c89 c90 c91 c92 c93 c94 c95 c96 c97 c98 c99 c100 c101 c102 c103 c104 c105 c106 c107 c108 c109 c110 c111 c112 c113 c114 c115 c116 c117 c118 c119 c120 c121 c122 c123 c124 c125 c126 c127 c128 c129 c130 c131 c132 c133 c134 c135 c136 c137 c138 c139 c140 c141 c142 c143 c144 c145 c146 c147 c148 c149 c150 c151 c152 c153 c154 c155 c156 c157 c158 c159 c160 c161 c162 c163 c164 c165 c166 c167 c168 c169 c170 c171 c172 c173 c174 c175 c176 c177 c178 c179 c180 c181 c182 c183 c184 c185 c186 c187 c188 c189 c190 c191 c192 c193 c194 c195 c196 c197 c198 c199 c200 c201 c202 c203 c204 c205 c206 c207 c208 c209 c210 c211 c212 c213 c214 c215 c216 c217 c218 c219 c220 c221 c222 c223 c224 c225 c226 c227 c228 c229 c230 c231 c232 c233 c234 c235 c236 c237 c238 c239 c240 c241 c242 c243 c244 c245 c246 c247 c248 c249 c250 c251 c252 c253 c254 c255 c256 c257 c258 c259 c260 c261 c262 c263 c264 c265 c266 c267 c268 c269 c270 c271 c272 c273 c274 c275 c276 c277 c278 c279 c280 c281 c282 c283 c284 c285 c286 c287 c288 c289 c290 c291 c292 c293 c294 c295 c296 c297 c298 c299 c300 c301 : Value) (gs so n sc g2 g4 g6 g7 x i B : Nat) (vx wv : Value) (L : List Lf) (ds : List Deferred) (w w5 : World) (nz c q0 q1 q2 q3 : Int) (n1 : Bool) (a1 d1 : ByteArray) (n2 : Bool) (a2 d2 : ByteArray) (Q : Exit → Act → World → Prop)
    (hz1 : a1.size ≤ 9223372036854775807) (hz2 : d1.size ≤ 9223372036854775807) (hz3 : a2.size ≤ 9223372036854775807) (hz4 : d2.size ≤ 9223372036854775807)
    (hq : Hid (c = 0 → ∃ l : Lf, Lfp l ∧ n1 = false ∧ a1 = natS l.1.1 ∧ d1 = natS l.1.2 ∧ n2 = false ∧ a2 = natS l.2.1 ∧ d2 = natS l.2.2 ∧ #[Value.int .u64 q0, .int .u64 q1, .int .u64 q2, .int .u64 q3] = #[.int .u64 (l.1.1 : Int), .int .u64 (l.1.2 : Int), .int .u64 (l.2.1 : Int), .int .u64 (l.2.2 : Int)]))
    (hcE : Hid (c = chkLf n1 a1 d1 n2 a2 d2)) (hP : Hid (PlS B g2 g4 g6 g7 x vx wv L L #[.int .i64 4, .bool n1, .string a1, .string d1, .bool n2, .string a2, .string d2, .int .i64 nz] #[.int .u64 q0, .int .u64 q1, .int .u64 q2, .int .u64 q3] ds w w5))
    (hQ : ∀ (y : Nat) (vy wy : Value) (L' : List Lf) (u8 u9 u10 u11 u12 u13 u14 u15 u16 u17 u18 u19 u20 u21 u22 u23 u24 u50 u51 u52 u53 u54 u55 u56 u57 u58 u59 u60 u61 u62 u63 u64 u65 u66 u67 u68 u69 u70 u71 u72 u73 u74 u75 u76 u77 u78 u79 u80 u81 u82 u83 u84 u85 u86 u87 u88 u89 u90 u91 u92 u93 u94 u95 u96 u97 u98 u99 u100 u101 u102 u103 u104 u105 u106 u107 u108 u109 u110 u111 u112 u113 u114 u115 u116 u117 u118 u119 u120 u121 u122 u123 u124 u125 u126 u127 u128 u129 u130 u131 u132 u133 u134 u135 u136 u137 u138 u139 u140 u141 u142 u143 u144 u145 u146 u147 u148 u149 u150 u151 u152 u153 u154 u155 u156 u157 u158 u159 u160 u161 u162 u163 u164 u165 u166 u167 u168 u169 u170 u171 u172 u173 u174 u175 u176 u177 u178 u179 u180 u181 u182 u183 u184 u185 u186 u187 u188 u189 u190 u191 u192 u193 u194 u195 u196 u197 u198 u199 u200 u201 u202 u203 u204 u205 u206 u207 u208 u209 u210 u211 u212 u213 u214 u215 u216 u217 u218 u219 u220 u221 u222 u223 u224 u225 u226 u227 u228 u229 u230 u231 u232 u233 u234 u235 u236 u237 u238 u239 u240 u241 u242 u243 u244 u245 u246 u247 u248 u249 u250 u251 u252 u253 u254 u255 u256 u257 u258 u259 u260 u261 u262 u263 u264 u265 u266 u267 u268 u269 u270 u271 u272 u273 u274 u275 u276 u277 u278 u279 u280 u281 u282 u283 u284 u285 u286 u287 u288 u289 u290 u291 u292 u293 u294 : Value) (es : List Deferred) (W : World), PlH B g2 g4 y vy wy L' es w W → Q .normal { tmps := #[.slice (some ⟨gs, so, none⟩) n sc, c1, .pointer (some ⟨g2, 0, none⟩), .pointer (some ⟨y, 0, none⟩), .pointer (some ⟨g4, 0, none⟩), .int .i64 (i : Int), .pointer (some ⟨g6, 0, none⟩), .pointer (some ⟨g7, 0, none⟩), u8, u9, u10, u11, u12, u13, u14, u15, u16, u17, u18, u19, u20, u21, u22, u23, u24, c25, c26, c27, c28, c29, c30, c31, c32, c33, c34, c35, c36, c37, c38, c39, c40, c41, c42, c43, c44, c45, c46, c47, c48, .int .i64 4, u50, u51, u52, u53, u54, u55, u56, u57, u58, u59, u60, u61, u62, u63, u64, u65, u66, u67, u68, u69, u70, u71, u72, u73, u74, u75, u76, u77, u78, u79, u80, u81, u82, u83, u84, u85, u86, u87, u88, u89, u90, u91, u92, u93, u94, u95, u96, u97, u98, u99, u100, u101, u102, u103, u104, u105, u106, u107, u108, u109, u110, u111, u112, u113, u114, u115, u116, u117, u118, u119, u120, u121, u122, u123, u124, u125, u126, u127, u128, u129, u130, u131, u132, u133, u134, u135, u136, u137, u138, u139, u140, u141, u142, u143, u144, u145, u146, u147, u148, u149, u150, u151, u152, u153, u154, u155, u156, u157, u158, u159, u160, u161, u162, u163, u164, u165, u166, u167, u168, u169, u170, u171, u172, u173, u174, u175, u176, u177, u178, u179, u180, u181, u182, u183, u184, u185, u186, u187, u188, u189, u190, u191, u192, u193, u194, u195, u196, u197, u198, u199, u200, u201, u202, u203, u204, u205, u206, u207, u208, u209, u210, u211, u212, u213, u214, u215, u216, u217, u218, u219, u220, u221, u222, u223, u224, u225, u226, u227, u228, u229, u230, u231, u232, u233, u234, u235, u236, u237, u238, u239, u240, u241, u242, u243, u244, u245, u246, u247, u248, u249, u250, u251, u252, u253, u254, u255, u256, u257, u258, u259, u260, u261, u262, u263, u264, u265, u266, u267, u268, u269, u270, u271, u272, u273, u274, u275, u276, u277, u278, u279, u280, u281, u282, u283, u284, u285, u286, u287, u288, u289, u290, u291, u292, u293, u294, c295, c296, c297, c298, c299, c300, c301], defers := es } W)
    (hX : ∀ (y : Nat) (vy wy : Value) (L' : List Lf) (u8 u9 u10 u11 u12 u13 u14 u15 u16 u17 u18 u19 u20 u21 u22 u23 u24 u50 u51 u52 u53 u54 u55 u56 u57 u58 u59 u60 u61 u62 u63 u64 u65 u66 u67 u68 u69 u70 u71 u72 u73 u74 u75 u76 u77 u78 u79 u80 u81 u82 u83 u84 u85 u86 u87 u88 u89 u90 u91 u92 u93 u94 u95 u96 u97 u98 u99 u100 u101 u102 u103 u104 u105 u106 u107 u108 u109 u110 u111 u112 u113 u114 u115 u116 u117 u118 u119 u120 u121 u122 u123 u124 u125 u126 u127 u128 u129 u130 u131 u132 u133 u134 u135 u136 u137 u138 u139 u140 u141 u142 u143 u144 u145 u146 u147 u148 u149 u150 u151 u152 u153 u154 u155 u156 u157 u158 u159 u160 u161 u162 u163 u164 u165 u166 u167 u168 u169 u170 u171 u172 u173 u174 u175 u176 u177 u178 u179 u180 u181 u182 u183 u184 u185 u186 u187 u188 u189 u190 u191 u192 u193 u194 u195 u196 u197 u198 u199 u200 u201 u202 u203 u204 u205 u206 u207 u208 u209 u210 u211 u212 u213 u214 u215 u216 u217 u218 u219 u220 u221 u222 u223 u224 u225 u226 u227 u228 u229 u230 u231 u232 u233 u234 u235 u236 u237 u238 u239 u240 u241 u242 u243 u244 u245 u246 u247 u248 u249 u250 u251 u252 u253 u254 u255 u256 u257 u258 u259 u260 u261 u262 u263 u264 u265 u266 u267 u268 u269 u270 u271 u272 u273 u274 u275 u276 u277 u278 u279 u280 u281 u282 u283 u284 u285 u286 u287 u288 u289 u290 u291 u292 u293 u294 : Value) (es : List Deferred) (W : World), PlH B g2 g4 y vy wy L' es w W → Q (.exit 1) { tmps := #[.slice (some ⟨gs, so, none⟩) n sc, c1, .pointer (some ⟨g2, 0, none⟩), .pointer (some ⟨y, 0, none⟩), .pointer (some ⟨g4, 0, none⟩), .int .i64 (i : Int), .pointer (some ⟨g6, 0, none⟩), .pointer (some ⟨g7, 0, none⟩), u8, u9, u10, u11, u12, u13, u14, u15, u16, u17, u18, u19, u20, u21, u22, u23, u24, c25, c26, c27, c28, c29, c30, c31, c32, c33, c34, c35, c36, c37, c38, c39, c40, c41, c42, c43, c44, c45, c46, c47, c48, .int .i64 4, u50, u51, u52, u53, u54, u55, u56, u57, u58, u59, u60, u61, u62, u63, u64, u65, u66, u67, u68, u69, u70, u71, u72, u73, u74, u75, u76, u77, u78, u79, u80, u81, u82, u83, u84, u85, u86, u87, u88, u89, u90, u91, u92, u93, u94, u95, u96, u97, u98, u99, u100, u101, u102, u103, u104, u105, u106, u107, u108, u109, u110, u111, u112, u113, u114, u115, u116, u117, u118, u119, u120, u121, u122, u123, u124, u125, u126, u127, u128, u129, u130, u131, u132, u133, u134, u135, u136, u137, u138, u139, u140, u141, u142, u143, u144, u145, u146, u147, u148, u149, u150, u151, u152, u153, u154, u155, u156, u157, u158, u159, u160, u161, u162, u163, u164, u165, u166, u167, u168, u169, u170, u171, u172, u173, u174, u175, u176, u177, u178, u179, u180, u181, u182, u183, u184, u185, u186, u187, u188, u189, u190, u191, u192, u193, u194, u195, u196, u197, u198, u199, u200, u201, u202, u203, u204, u205, u206, u207, u208, u209, u210, u211, u212, u213, u214, u215, u216, u217, u218, u219, u220, u221, u222, u223, u224, u225, u226, u227, u228, u229, u230, u231, u232, u233, u234, u235, u236, u237, u238, u239, u240, u241, u242, u243, u244, u245, u246, u247, u248, u249, u250, u251, u252, u253, u254, u255, u256, u257, u258, u259, u260, u261, u262, u263, u264, u265, u266, u267, u268, u269, u270, u271, u272, u273, u274, u275, u276, u277, u278, u279, u280, u281, u282, u283, u284, u285, u286, u287, u288, u289, u290, u291, u292, u293, u294, c295, c296, c297, c298, c299, c300, c301], defers := es } W) :
    Code.wp Tryz.prog swCode Q { tmps := #[.slice (some ⟨gs, so, none⟩) n sc, c1, .pointer (some ⟨g2, 0, none⟩), .pointer (some ⟨x, 0, none⟩), .pointer (some ⟨g4, 0, none⟩), .int .i64 (i : Int), .pointer (some ⟨g6, 0, none⟩), .pointer (some ⟨g7, 0, none⟩), .int .i64 c, c9, c10, c11, c12, c13, c14, c15, c16, c17, c18, c19, c20, c21, c22, c23, c24, c25, c26, c27, c28, c29, c30, c31, c32, c33, c34, c35, c36, c37, c38, c39, c40, c41, c42, c43, c44, c45, c46, c47, c48, .int .i64 4, c50, c51, c52, c53, c54, c55, c56, c57, c58, c59, c60, c61, c62, c63, c64, c65, c66, c67, c68, c69, c70, c71, c72, c73, c74, c75, c76, c77, c78, c79, c80, c81, c82, c83, c84, c85, c86, c87, c88, c89, c90, c91, c92, c93, c94, c95, c96, c97, c98, c99, c100, c101, c102, c103, c104, c105, c106, c107, c108, c109, c110, c111, c112, c113, c114, c115, c116, c117, c118, c119, c120, c121, c122, c123, c124, c125, c126, c127, c128, c129, c130, c131, c132, c133, c134, c135, c136, c137, c138, c139, c140, c141, c142, c143, c144, c145, c146, c147, c148, c149, c150, c151, c152, c153, c154, c155, c156, c157, c158, c159, c160, c161, c162, c163, c164, c165, c166, c167, c168, c169, c170, c171, c172, c173, c174, c175, c176, c177, c178, c179, c180, c181, c182, c183, c184, c185, c186, c187, c188, c189, c190, c191, c192, c193, c194, c195, c196, c197, c198, c199, c200, c201, c202, c203, c204, c205, c206, c207, c208, c209, c210, c211, c212, c213, c214, c215, c216, c217, c218, c219, c220, c221, c222, c223, c224, c225, c226, c227, c228, c229, c230, c231, c232, c233, c234, c235, c236, c237, c238, c239, c240, c241, c242, c243, c244, c245, c246, c247, c248, c249, c250, c251, c252, c253, c254, c255, c256, c257, c258, c259, c260, c261, c262, c263, c264, c265, c266, c267, c268, c269, c270, c271, c272, c273, c274, c275, c276, c277, c278, c279, c280, c281, c282, c283, c284, c285, c286, c287, c288, c289, c290, c291, c292, c293, c294, c295, c296, c297, c298, c299, c300, c301], defers := ds } w5 := by
  conv => arg 2; whnf
  have hQ := Lib.hid hQ
  have hX := Lib.hid hX
  have hC := Lib.hid (lOpen_any B x vx L nz w5 hP.out.lam)
  have cT := Lib.hid (fun W => lturnedd_any nz W)
  have hOk := Lib.hid hP.out.lam.ok
  have hlen := hP.out.lam.len
  have cR : Hid (∀ d : Nat, d ≤ 64 → ∀ W, RRow W B wv L → Calls Tryz.prog 50 #[wv, .int .i64 (d : Int)] W (RetVal (.tuple #[(ropenV L d).1, .bool (ropenV L d).2]) W)) := Lib.hid (fun d hd W h => rlopen_any B wv L d W h hOk.out hd hlen)
  obtain ⟨m, hm⟩ : ∃ m, m = L.length := ⟨_, rfl⟩
  obtain ⟨A4, c4_, hwv, -⟩ := RRow.form hP.out.row
  rw [← hm] at hwv
  subst hwv
  have hm0 : Hid (m = 0 ↔ L = []) := Lib.hid (by rw [hm]; exact List.length_eq_zero_iff)
  replace hm := Lib.hid hm
  have s7 : w5.cell? ⟨g6, 7, none⟩ = some (.int .i64 nz) := hP.out.b6.cell 7
  clear hq hlen
  by_cases hne : L = []
  case pos =>
    have hov : openV L nz = (leaf0, false, 0) := by rw [openV, if_pos hne]
    cases hrb : roundB nz
    case true =>
      have hC1 : Hid (Calls Tryz.prog 40 #[.pointer (some ⟨x, 0, none⟩), .int .i64 nz] w5 (RetVal (.tuple #[.agg #[.bool false, .string ⟨#[]⟩, .string ⟨#[]⟩, .bool false, .string ⟨#[]⟩, .string ⟨#[]⟩], .bool false, .int .i64 0]) w5)) := Lib.hid (by have h := hC.out; rw [hov] at h; exact h)
      have cT1 : Hid (∀ W, Calls Tryz.prog 21 #[.int .i64 nz] W (RetVal (.int .i64 0) W)) := Lib.hid (fun W => by have h := cT.out W; rw [hrb] at h; exact h)
      clear hC cT hov
      go_wp2_with fail
      refine hC1.out.mono ?_
      rintro en w6 ⟨rfl, hb⟩
      try dsimp only
      replace hP := Lib.hid (hP.out.below hb)
      clear hb hC1 s7
      have hbW := Lib.hid (Below.refl w6.heap.size w6)
      have hsz : Hid (w6.heap.size ≤ w6.heap.size) := Lib.hid (Nat.le_refl _)
      go_upto_region 35 with fail
      have kn := Blk.new w6 38 #[.bool false, .string ⟨#[]⟩, .string ⟨#[]⟩, .bool false, .string ⟨#[]⟩, .string ⟨#[]⟩]
      replace hbW := Lib.hid (hbW.out.alloc hbW.out.size (.cells #[.bool false, .string ⟨#[]⟩, .string ⟨#[]⟩, .bool false, .string ⟨#[]⟩, .string ⟨#[]⟩] 38))
      have hgn : w6.heap.size ≤ w6.heap.size := hsz.out
      generalize hW : w6.alloc (.cells #[.bool false, .string ⟨#[]⟩, .string ⟨#[]⟩, .bool false, .string ⟨#[]⟩, .string ⟨#[]⟩] 38) = w7 at hbW  kn ⊢
      generalize hgg : w6.heap.size = g15 at kn hgn ⊢
      clear hW hgg
      have kg15 := Lib.hid kn
      have hg15 := Lib.hid hgn
      clear kn hgn
      replace hsz := Lib.hid hbW.out.size
      have s7 : w7.cell? ⟨g6, 7, none⟩ = some (.int .i64 nz) := (hP.out.below hbW.out).b6.cell 7
      go_wp2_with fail
      refine (cT1.out _).mono ?_
      rintro en w8 ⟨rfl, hb⟩
      try dsimp only
      replace hbW := Lib.hid (hbW.out.trans (hb.mono hbW.out.size))
      replace kg15 := Lib.hid (kg15.out.below hb)
      clear hb
      replace hsz := Lib.hid hbW.out.size
      clear s7
      have b40 : w8.cell? ⟨g4, 0, none⟩ = some (.slice A4 m c4_) := (hP.out.below hbW.out).b4.cell 0
      obtain rfl : m = 0 := hm0.out.2 hne
      go_upto_region 39 with fail
      clear b40
      have kn := Blk.new w8 44 #[.int .u64 0, .int .u64 0, .int .u64 0, .int .u64 0]
      replace hbW := Lib.hid (hbW.out.alloc hbW.out.size (.cells #[.int .u64 0, .int .u64 0, .int .u64 0, .int .u64 0] 44))
      replace kg15 := Lib.hid (kg15.out.alloc (.cells #[.int .u64 0, .int .u64 0, .int .u64 0, .int .u64 0] 44))
      have hgn : w6.heap.size ≤ w8.heap.size := hsz.out
      generalize hW : w8.alloc (.cells #[.int .u64 0, .int .u64 0, .int .u64 0, .int .u64 0] 44) = w9 at hbW kg15 kn ⊢
      generalize hgg : w8.heap.size = g18 at kn hgn ⊢
      clear hW hgg
      have kg18 := Lib.hid kn
      have hg18 := Lib.hid hgn
      clear kn hgn
      replace hsz := Lib.hid hbW.out.size
      have b40 : w9.cell? ⟨g4, 0, none⟩ = some (.slice A4 0 c4_) := (hP.out.below hbW.out).b4.cell 0
      go_upto_region 41 with fail
      clear b40
      go_upto_region 42 with fail
      have hnx : g15 ≠ w9.heap.size := Nat.ne_of_lt kg15.out.lt
      have kn := Blk.new w9 38 #[.bool false, .string ⟨#[]⟩, .string ⟨#[]⟩, .bool false, .string ⟨#[]⟩, .string ⟨#[]⟩]
      replace hbW := Lib.hid (hbW.out.alloc hbW.out.size (.cells #[.bool false, .string ⟨#[]⟩, .string ⟨#[]⟩, .bool false, .string ⟨#[]⟩, .string ⟨#[]⟩] 38))
      replace kg15 := Lib.hid (kg15.out.alloc (.cells #[.bool false, .string ⟨#[]⟩, .string ⟨#[]⟩, .bool false, .string ⟨#[]⟩, .string ⟨#[]⟩] 38))
      replace kg18 := Lib.hid (kg18.out.alloc (.cells #[.bool false, .string ⟨#[]⟩, .string ⟨#[]⟩, .bool false, .string ⟨#[]⟩, .string ⟨#[]⟩] 38))
      have hgn : w6.heap.size ≤ w9.heap.size := hsz.out
      generalize hW : w9.alloc (.cells #[.bool false, .string ⟨#[]⟩, .string ⟨#[]⟩, .bool false, .string ⟨#[]⟩, .string ⟨#[]⟩] 38) = wC at hbW kg15 kg18 kn ⊢
      generalize hgg : w9.heap.size = g20 at kn hgn hnx ⊢
      clear hW hgg
      have kg20 := Lib.hid kn
      have hg20 := Lib.hid hgn
      clear kn hgn
      replace hsz := Lib.hid hbW.out.size
      have hne1520 := Lib.hid hnx
      clear hnx
      have z0 : wC.cell? ⟨g15, 0, none⟩ = some (.bool false) := kg15.out.cell 0
      have y0 : wC.cell? ⟨g20, 0, none⟩ = some (.bool false) := kg20.out.cell 0
      have z1 : wC.cell? ⟨g15, 1, none⟩ = some (.string ⟨#[]⟩) := kg15.out.cell 1
      have y1 : wC.cell? ⟨g20, 1, none⟩ = some (.string ⟨#[]⟩) := kg20.out.cell 1
      have z2 : wC.cell? ⟨g15, 2, none⟩ = some (.string ⟨#[]⟩) := kg15.out.cell 2
      have y2 : wC.cell? ⟨g20, 2, none⟩ = some (.string ⟨#[]⟩) := kg20.out.cell 2
      have z3 : wC.cell? ⟨g15, 3, none⟩ = some (.bool false) := kg15.out.cell 3
      have y3 : wC.cell? ⟨g20, 3, none⟩ = some (.bool false) := kg20.out.cell 3
      have z4 : wC.cell? ⟨g15, 4, none⟩ = some (.string ⟨#[]⟩) := kg15.out.cell 4
      have y4 : wC.cell? ⟨g20, 4, none⟩ = some (.string ⟨#[]⟩) := kg20.out.cell 4
      have z5 : wC.cell? ⟨g15, 5, none⟩ = some (.string ⟨#[]⟩) := kg15.out.cell 5
      have y5 : wC.cell? ⟨g20, 5, none⟩ = some (.string ⟨#[]⟩) := kg20.out.cell 5
      go_wp2_with fail
      exact hQ.out x vx _ L _ _ _ _ _ _ _ _ _ _ _ _ _ _ _ _ _ _ _ _ _ _ _ _ _ _ _ _ _ _ _ _ _ _ _ _ _ _ _ _ _ _ _ _ _ _ _ _ _ _ _ _ _ _ _ _ _ _ _ _ _ _ _ _ _ _ _ _ _ _ _ _ _ _ _ _ _ _ _ _ _ _ _ _ _ _ _ _ _ _ _ _ _ _ _ _ _ _ _ _ _ _ _ _ _ _ _ _ _ _ _ _ _ _ _ _ _ _ _ _ _ _ _ _ _ _ _ _ _ _ _ _ _ _ _ _ _ _ _ _ _ _ _ _ _ _ _ _ _ _ _ _ _ _ _ _ _ _ _ _ _ _ _ _ _ _ _ _ _ _ _ _ _ _ _ _ _ _ _ _ _ _ _ _ _ _ _ _ _ _ _ _ _ _ _ _ _ _ _ _ _ _ _ _ _ _ _ _ _ _ _ _ _ _ _ _ _ _ _ _ _ _ _ _ _ _ _ _ _ _ _ _ _ _ _ _ _ _ _ _ _ _ _ _ _ _ _ _ _ _ _ _ _ _ _ _ _ _ _ _ _ _ _ _ (hP.out.below hbW.out).head
    case false =>
      have hC1 : Hid (Calls Tryz.prog 40 #[.pointer (some ⟨x, 0, none⟩), .int .i64 nz] w5 (RetVal (.tuple #[.agg #[.bool false, .string ⟨#[]⟩, .string ⟨#[]⟩, .bool false, .string ⟨#[]⟩, .string ⟨#[]⟩], .bool false, .int .i64 0]) w5)) := Lib.hid (by have h := hC.out; rw [hov] at h; exact h)
      have cT1 : Hid (∀ W, Calls Tryz.prog 21 #[.int .i64 nz] W (RetVal (.int .i64 2) W)) := Lib.hid (fun W => by have h := cT.out W; rw [hrb] at h; exact h)
      clear hC cT hov
      go_wp2_with fail
      refine hC1.out.mono ?_
      rintro en w6 ⟨rfl, hb⟩
      try dsimp only
      replace hP := Lib.hid (hP.out.below hb)
      clear hb hC1 s7
      have hbW := Lib.hid (Below.refl w6.heap.size w6)
      have hsz : Hid (w6.heap.size ≤ w6.heap.size) := Lib.hid (Nat.le_refl _)
      go_upto_region 35 with fail
      have kn := Blk.new w6 38 #[.bool false, .string ⟨#[]⟩, .string ⟨#[]⟩, .bool false, .string ⟨#[]⟩, .string ⟨#[]⟩]
      replace hbW := Lib.hid (hbW.out.alloc hbW.out.size (.cells #[.bool false, .string ⟨#[]⟩, .string ⟨#[]⟩, .bool false, .string ⟨#[]⟩, .string ⟨#[]⟩] 38))
      have hgn : w6.heap.size ≤ w6.heap.size := hsz.out
      generalize hW : w6.alloc (.cells #[.bool false, .string ⟨#[]⟩, .string ⟨#[]⟩, .bool false, .string ⟨#[]⟩, .string ⟨#[]⟩] 38) = w7 at hbW  kn ⊢
      generalize hgg : w6.heap.size = g15 at kn hgn ⊢
      clear hW hgg
      have kg15 := Lib.hid kn
      have hg15 := Lib.hid hgn
      clear kn hgn
      replace hsz := Lib.hid hbW.out.size
      have s7 : w7.cell? ⟨g6, 7, none⟩ = some (.int .i64 nz) := (hP.out.below hbW.out).b6.cell 7
      go_wp2_with fail
      refine (cT1.out _).mono ?_
      rintro en w8 ⟨rfl, hb⟩
      try dsimp only
      replace hbW := Lib.hid (hbW.out.trans (hb.mono hbW.out.size))
      replace kg15 := Lib.hid (kg15.out.below hb)
      clear hb
      replace hsz := Lib.hid hbW.out.size
      clear s7
      have b40 : w8.cell? ⟨g4, 0, none⟩ = some (.slice A4 m c4_) := (hP.out.below hbW.out).b4.cell 0
      obtain rfl : m = 0 := hm0.out.2 hne
      go_upto_region 39 with fail
      clear b40
      have kn := Blk.new w8 44 #[.int .u64 0, .int .u64 0, .int .u64 0, .int .u64 0]
      replace hbW := Lib.hid (hbW.out.alloc hbW.out.size (.cells #[.int .u64 0, .int .u64 0, .int .u64 0, .int .u64 0] 44))
      replace kg15 := Lib.hid (kg15.out.alloc (.cells #[.int .u64 0, .int .u64 0, .int .u64 0, .int .u64 0] 44))
      have hgn : w6.heap.size ≤ w8.heap.size := hsz.out
      generalize hW : w8.alloc (.cells #[.int .u64 0, .int .u64 0, .int .u64 0, .int .u64 0] 44) = w9 at hbW kg15 kn ⊢
      generalize hgg : w8.heap.size = g18 at kn hgn ⊢
      clear hW hgg
      have kg18 := Lib.hid kn
      have hg18 := Lib.hid hgn
      clear kn hgn
      replace hsz := Lib.hid hbW.out.size
      have b40 : w9.cell? ⟨g4, 0, none⟩ = some (.slice A4 0 c4_) := (hP.out.below hbW.out).b4.cell 0
      go_upto_region 41 with fail
      clear b40
      go_upto_region 42 with fail
      have hnx : g15 ≠ w9.heap.size := Nat.ne_of_lt kg15.out.lt
      have kn := Blk.new w9 38 #[.bool false, .string ⟨#[]⟩, .string ⟨#[]⟩, .bool false, .string ⟨#[]⟩, .string ⟨#[]⟩]
      replace hbW := Lib.hid (hbW.out.alloc hbW.out.size (.cells #[.bool false, .string ⟨#[]⟩, .string ⟨#[]⟩, .bool false, .string ⟨#[]⟩, .string ⟨#[]⟩] 38))
      replace kg15 := Lib.hid (kg15.out.alloc (.cells #[.bool false, .string ⟨#[]⟩, .string ⟨#[]⟩, .bool false, .string ⟨#[]⟩, .string ⟨#[]⟩] 38))
      replace kg18 := Lib.hid (kg18.out.alloc (.cells #[.bool false, .string ⟨#[]⟩, .string ⟨#[]⟩, .bool false, .string ⟨#[]⟩, .string ⟨#[]⟩] 38))
      have hgn : w6.heap.size ≤ w9.heap.size := hsz.out
      generalize hW : w9.alloc (.cells #[.bool false, .string ⟨#[]⟩, .string ⟨#[]⟩, .bool false, .string ⟨#[]⟩, .string ⟨#[]⟩] 38) = wC at hbW kg15 kg18 kn ⊢
      generalize hgg : w9.heap.size = g20 at kn hgn hnx ⊢
      clear hW hgg
      have kg20 := Lib.hid kn
      have hg20 := Lib.hid hgn
      clear kn hgn
      replace hsz := Lib.hid hbW.out.size
      have hne1520 := Lib.hid hnx
      clear hnx
      have z0 : wC.cell? ⟨g15, 0, none⟩ = some (.bool false) := kg15.out.cell 0
      have y0 : wC.cell? ⟨g20, 0, none⟩ = some (.bool false) := kg20.out.cell 0
      have z1 : wC.cell? ⟨g15, 1, none⟩ = some (.string ⟨#[]⟩) := kg15.out.cell 1
      have y1 : wC.cell? ⟨g20, 1, none⟩ = some (.string ⟨#[]⟩) := kg20.out.cell 1
      have z2 : wC.cell? ⟨g15, 2, none⟩ = some (.string ⟨#[]⟩) := kg15.out.cell 2
      have y2 : wC.cell? ⟨g20, 2, none⟩ = some (.string ⟨#[]⟩) := kg20.out.cell 2
      have z3 : wC.cell? ⟨g15, 3, none⟩ = some (.bool false) := kg15.out.cell 3
      have y3 : wC.cell? ⟨g20, 3, none⟩ = some (.bool false) := kg20.out.cell 3
      have z4 : wC.cell? ⟨g15, 4, none⟩ = some (.string ⟨#[]⟩) := kg15.out.cell 4
      have y4 : wC.cell? ⟨g20, 4, none⟩ = some (.string ⟨#[]⟩) := kg20.out.cell 4
      have z5 : wC.cell? ⟨g15, 5, none⟩ = some (.string ⟨#[]⟩) := kg15.out.cell 5
      have y5 : wC.cell? ⟨g20, 5, none⟩ = some (.string ⟨#[]⟩) := kg20.out.cell 5
      go_wp2_with fail
      exact hQ.out x vx _ L _ _ _ _ _ _ _ _ _ _ _ _ _ _ _ _ _ _ _ _ _ _ _ _ _ _ _ _ _ _ _ _ _ _ _ _ _ _ _ _ _ _ _ _ _ _ _ _ _ _ _ _ _ _ _ _ _ _ _ _ _ _ _ _ _ _ _ _ _ _ _ _ _ _ _ _ _ _ _ _ _ _ _ _ _ _ _ _ _ _ _ _ _ _ _ _ _ _ _ _ _ _ _ _ _ _ _ _ _ _ _ _ _ _ _ _ _ _ _ _ _ _ _ _ _ _ _ _ _ _ _ _ _ _ _ _ _ _ _ _ _ _ _ _ _ _ _ _ _ _ _ _ _ _ _ _ _ _ _ _ _ _ _ _ _ _ _ _ _ _ _ _ _ _ _ _ _ _ _ _ _ _ _ _ _ _ _ _ _ _ _ _ _ _ _ _ _ _ _ _ _ _ _ _ _ _ _ _ _ _ _ _ _ _ _ _ _ _ _ _ _ _ _ _ _ _ _ _ _ _ _ _ _ _ _ _ _ _ _ _ _ _ _ _ _ _ _ _ _ _ _ _ _ _ _ _ _ _ _ _ _ _ _ _ (hP.out.below hbW.out).head
  case neg =>
    cases hrb : roundB nz
    case false =>
      have hov : openV L nz = (leaf0, false, 2) := by rw [openV, if_neg hne, hrb]; rfl
      have hC1 : Hid (Calls Tryz.prog 40 #[.pointer (some ⟨x, 0, none⟩), .int .i64 nz] w5 (RetVal (.tuple #[.agg #[.bool false, .string ⟨#[]⟩, .string ⟨#[]⟩, .bool false, .string ⟨#[]⟩, .string ⟨#[]⟩], .bool false, .int .i64 2]) w5)) := Lib.hid (by have h := hC.out; rw [hov] at h; exact h)
      have cT1 : Hid (∀ W, Calls Tryz.prog 21 #[.int .i64 nz] W (RetVal (.int .i64 2) W)) := Lib.hid (fun W => by have h := cT.out W; rw [hrb] at h; exact h)
      clear hC cT hov
      go_wp2_with fail
      refine hC1.out.mono ?_
      rintro en w6 ⟨rfl, hb⟩
      try dsimp only
      replace hP := Lib.hid (hP.out.below hb)
      clear hb hC1 s7
      have hbW := Lib.hid (Below.refl w6.heap.size w6)
      have hsz : Hid (w6.heap.size ≤ w6.heap.size) := Lib.hid (Nat.le_refl _)
      go_upto_region 35 with fail
      have kn := Blk.new w6 38 #[.bool false, .string ⟨#[]⟩, .string ⟨#[]⟩, .bool false, .string ⟨#[]⟩, .string ⟨#[]⟩]
      replace hbW := Lib.hid (hbW.out.alloc hbW.out.size (.cells #[.bool false, .string ⟨#[]⟩, .string ⟨#[]⟩, .bool false, .string ⟨#[]⟩, .string ⟨#[]⟩] 38))
      have hgn : w6.heap.size ≤ w6.heap.size := hsz.out
      generalize hW : w6.alloc (.cells #[.bool false, .string ⟨#[]⟩, .string ⟨#[]⟩, .bool false, .string ⟨#[]⟩, .string ⟨#[]⟩] 38) = w7 at hbW  kn ⊢
      generalize hgg : w6.heap.size = g15 at kn hgn ⊢
      clear hW hgg
      have kg15 := Lib.hid kn
      have hg15 := Lib.hid hgn
      clear kn hgn
      replace hsz := Lib.hid hbW.out.size
      have s7 : w7.cell? ⟨g6, 7, none⟩ = some (.int .i64 nz) := (hP.out.below hbW.out).b6.cell 7
      go_wp2_with fail
      refine (cT1.out _).mono ?_
      rintro en w8 ⟨rfl, hb⟩
      try dsimp only
      replace hbW := Lib.hid (hbW.out.trans (hb.mono hbW.out.size))
      replace kg15 := Lib.hid (kg15.out.below hb)
      clear hb
      replace hsz := Lib.hid hbW.out.size
      clear s7
      have b40 : w8.cell? ⟨g4, 0, none⟩ = some (.slice A4 m c4_) := (hP.out.below hbW.out).b4.cell 0
      have s7 : w8.cell? ⟨g6, 7, none⟩ = some (.int .i64 nz) := (hP.out.below hbW.out).b6.cell 7
      have hmp : (0 : Int) < (m : Int) := by have h := hm0.out; have : m ≠ 0 := fun e => hne (h.1 e); omega
      have z0 : w8.cell? ⟨g15, 0, none⟩ = some (.bool false) := kg15.out.cell 0
      have z1 : w8.cell? ⟨g15, 1, none⟩ = some (.string ⟨#[]⟩) := kg15.out.cell 1
      have z2 : w8.cell? ⟨g15, 2, none⟩ = some (.string ⟨#[]⟩) := kg15.out.cell 2
      have z3 : w8.cell? ⟨g15, 3, none⟩ = some (.bool false) := kg15.out.cell 3
      have z4 : w8.cell? ⟨g15, 4, none⟩ = some (.string ⟨#[]⟩) := kg15.out.cell 4
      have z5 : w8.cell? ⟨g15, 5, none⟩ = some (.string ⟨#[]⟩) := kg15.out.cell 5
      go_wp2_with fail
      refine (cT1.out _).mono ?_
      rintro en w9 ⟨rfl, hb⟩
      try dsimp only
      replace hbW := Lib.hid (hbW.out.trans (hb.mono hbW.out.size))
      replace kg15 := Lib.hid (kg15.out.below hb)
      clear hb
      replace hsz := Lib.hid hbW.out.size
      clear s7 b40 z0 z1 z2 z3 z4 z5
      have hP9 := Lib.hid (hP.out.below hbW.out)
      clear hP
      have hP := hP9
      go_wp2_with fail
      exact hX.out x vx _ L _ _ _ _ _ _ _ _ _ _ _ _ _ _ _ _ _ _ _ _ _ _ _ _ _ _ _ _ _ _ _ _ _ _ _ _ _ _ _ _ _ _ _ _ _ _ _ _ _ _ _ _ _ _ _ _ _ _ _ _ _ _ _ _ _ _ _ _ _ _ _ _ _ _ _ _ _ _ _ _ _ _ _ _ _ _ _ _ _ _ _ _ _ _ _ _ _ _ _ _ _ _ _ _ _ _ _ _ _ _ _ _ _ _ _ _ _ _ _ _ _ _ _ _ _ _ _ _ _ _ _ _ _ _ _ _ _ _ _ _ _ _ _ _ _ _ _ _ _ _ _ _ _ _ _ _ _ _ _ _ _ _ _ _ _ _ _ _ _ _ _ _ _ _ _ _ _ _ _ _ _ _ _ _ _ _ _ _ _ _ _ _ _ _ _ _ _ _ _ _ _ _ _ _ _ _ _ _ _ _ _ _ _ _ _ _ _ _ _ _ _ _ _ _ _ _ _ _ _ _ _ _ _ _ _ _ _ _ _ _ _ _ _ _ _ _ _ _ _ _ _ _ _ _ _ _ _ _ _ _ _ _ _ _ hP.out.head
    case true =>
      rcases ropen_cases (L := L) (d := nz.toNat) hOk.out with ⟨ho, hrv⟩ | ⟨l, -, ho, hrv, hlA, -⟩
      case inl =>
        have hov : openV L nz = (leaf0, false, 0) := by rw [openV, if_neg hne, hrb, if_pos rfl, ho]
        have hC1 : Hid (Calls Tryz.prog 40 #[.pointer (some ⟨x, 0, none⟩), .int .i64 nz] w5 (RetVal (.tuple #[.agg #[.bool false, .string ⟨#[]⟩, .string ⟨#[]⟩, .bool false, .string ⟨#[]⟩, .string ⟨#[]⟩], .bool false, .int .i64 0]) w5)) := Lib.hid (by have h := hC.out; rw [hov] at h; exact h)
        have cT1 : Hid (∀ W, Calls Tryz.prog 21 #[.int .i64 nz] W (RetVal (.int .i64 0) W)) := Lib.hid (fun W => by have h := cT.out W; rw [hrb] at h; exact h)
        clear hC cT hov
        go_wp2_with fail
        refine hC1.out.mono ?_
        rintro en w6 ⟨rfl, hb⟩
        try dsimp only
        replace hP := Lib.hid (hP.out.below hb)
        clear hb hC1 s7
        have hbW := Lib.hid (Below.refl w6.heap.size w6)
        have hsz : Hid (w6.heap.size ≤ w6.heap.size) := Lib.hid (Nat.le_refl _)
        go_upto_region 35 with fail
        have kn := Blk.new w6 38 #[.bool false, .string ⟨#[]⟩, .string ⟨#[]⟩, .bool false, .string ⟨#[]⟩, .string ⟨#[]⟩]
        replace hbW := Lib.hid (hbW.out.alloc hbW.out.size (.cells #[.bool false, .string ⟨#[]⟩, .string ⟨#[]⟩, .bool false, .string ⟨#[]⟩, .string ⟨#[]⟩] 38))
        have hgn : w6.heap.size ≤ w6.heap.size := hsz.out
        generalize hW : w6.alloc (.cells #[.bool false, .string ⟨#[]⟩, .string ⟨#[]⟩, .bool false, .string ⟨#[]⟩, .string ⟨#[]⟩] 38) = w7 at hbW  kn ⊢
        generalize hgg : w6.heap.size = g15 at kn hgn ⊢
        clear hW hgg
        have kg15 := Lib.hid kn
        have hg15 := Lib.hid hgn
        clear kn hgn
        replace hsz := Lib.hid hbW.out.size
        have s7 : w7.cell? ⟨g6, 7, none⟩ = some (.int .i64 nz) := (hP.out.below hbW.out).b6.cell 7
        go_wp2_with fail
        refine (cT1.out _).mono ?_
        rintro en w8 ⟨rfl, hb⟩
        try dsimp only
        replace hbW := Lib.hid (hbW.out.trans (hb.mono hbW.out.size))
        replace kg15 := Lib.hid (kg15.out.below hb)
        clear hb
        replace hsz := Lib.hid hbW.out.size
        clear s7
        have b40 : w8.cell? ⟨g4, 0, none⟩ = some (.slice A4 m c4_) := (hP.out.below hbW.out).b4.cell 0
        have hmp : (0 : Int) < (m : Int) := by have h := hm0.out; have : m ≠ 0 := fun e => hne (h.1 e); omega
        go_upto_region 39 with fail
        clear b40
        have kn := Blk.new w8 44 #[.int .u64 0, .int .u64 0, .int .u64 0, .int .u64 0]
        replace hbW := Lib.hid (hbW.out.alloc hbW.out.size (.cells #[.int .u64 0, .int .u64 0, .int .u64 0, .int .u64 0] 44))
        replace kg15 := Lib.hid (kg15.out.alloc (.cells #[.int .u64 0, .int .u64 0, .int .u64 0, .int .u64 0] 44))
        have hgn : w6.heap.size ≤ w8.heap.size := hsz.out
        generalize hW : w8.alloc (.cells #[.int .u64 0, .int .u64 0, .int .u64 0, .int .u64 0] 44) = w9 at hbW kg15 kn ⊢
        generalize hgg : w8.heap.size = g18 at kn hgn ⊢
        clear hW hgg
        have kg18 := Lib.hid kn
        have hg18 := Lib.hid hgn
        clear kn hgn
        replace hsz := Lib.hid hbW.out.size
        have b40 : w9.cell? ⟨g4, 0, none⟩ = some (.slice A4 m c4_) := (hP.out.below hbW.out).b4.cell 0
        have s7 : w9.cell? ⟨g6, 7, none⟩ = some (.int .i64 nz) := (hP.out.below hbW.out).b6.cell 7
        have cR1 : Hid (Calls Tryz.prog 50 #[.slice A4 m c4_, .int .i64 nz] w9 (RetVal (.tuple #[.agg #[.int .u64 0, .int .u64 0, .int .u64 0, .int .u64 0], .bool false]) w9)) := Lib.hid (by
          have h := cR.out nz.toNat (by have := roundB_iff.1 hrb; omega) w9 (hP.out.below hbW.out).row
          rw [hrv, show ((nz.toNat : Nat) : Int) = nz by have := roundB_iff.1 hrb; omega] at h
          exact h)
        clear hrv
        go_wp2_with fail
        refine cR1.out.mono ?_
        rintro en wA ⟨rfl, hb⟩
        try dsimp only
        replace hbW := Lib.hid (hbW.out.trans (hb.mono hbW.out.size))
        replace kg15 := Lib.hid (kg15.out.below hb)
        replace kg18 := Lib.hid (kg18.out.below hb)
        clear hb
        replace hsz := Lib.hid hbW.out.size
        clear s7 b40 cR1
        have y0 : wA.cell? ⟨g18, 0, none⟩ = some (.int .u64 0) := kg18.out.cell 0
        have yf0 : wA.frozen? ⟨g18, 0, none⟩ = false := kg18.out.frozen 0
        have y1 : wA.cell? ⟨g18, 1, none⟩ = some (.int .u64 0) := kg18.out.cell 1
        have yf1 : wA.frozen? ⟨g18, 1, none⟩ = false := kg18.out.frozen 1
        have y2 : wA.cell? ⟨g18, 2, none⟩ = some (.int .u64 0) := kg18.out.cell 2
        have yf2 : wA.frozen? ⟨g18, 2, none⟩ = false := kg18.out.frozen 2
        have y3 : wA.cell? ⟨g18, 3, none⟩ = some (.int .u64 0) := kg18.out.cell 3
        have yf3 : wA.frozen? ⟨g18, 3, none⟩ = false := kg18.out.frozen 3
        have hn1518 : Hid (g15 ≠ g18) := Lib.hid (blk_neB kg15.out kg18.out (by decide))
        have kg18b := Lib.hid (Blk.set_ (Blk.set_ (Blk.set_ (Blk.set_ kg18.out 0 (.int .u64 0)) 1 (.int .u64 0)) 2 (.int .u64 0)) 3 (.int .u64 0))
        have kg15b := Lib.hid (Blk.far (Blk.far (Blk.far (Blk.far kg15.out (p := ⟨g18, 0, none⟩) hn1518.out (.int .u64 0)) (p := ⟨g18, 1, none⟩) hn1518.out (.int .u64 0)) (p := ⟨g18, 2, none⟩) hn1518.out (.int .u64 0)) (p := ⟨g18, 3, none⟩) hn1518.out (.int .u64 0))
        have hbWb := Lib.hid ((((hbW.out.setCell (p := ⟨g18, 0, none⟩) hg18.out (.int .u64 0)).setCell (p := ⟨g18, 1, none⟩) hg18.out (.int .u64 0)).setCell (p := ⟨g18, 2, none⟩) hg18.out (.int .u64 0)).setCell (p := ⟨g18, 3, none⟩) hg18.out (.int .u64 0))
        clear kg18 kg15 hbW
        go_upto_region 41 with fail
        generalize hW : ((((wA.setCell ⟨g18, 0, none⟩ (.int .u64 0)).setCell ⟨g18, 1, none⟩ (.int .u64 0)).setCell ⟨g18, 2, none⟩ (.int .u64 0)).setCell ⟨g18, 3, none⟩ (.int .u64 0)) = wB at kg18b kg15b hbWb ⊢
        clear hW y0 yf0 y1 yf1 y2 yf2 y3 yf3
        have kg18 := kg18b
        have kg15 := kg15b
        have hbW := hbWb
        replace hsz := Lib.hid hbW.out.size
        clear kg18b kg15b hbWb
        go_upto_region 42 with fail
        have hnx : g15 ≠ wB.heap.size := Nat.ne_of_lt kg15.out.lt
        have kn := Blk.new wB 38 #[.bool false, .string ⟨#[]⟩, .string ⟨#[]⟩, .bool false, .string ⟨#[]⟩, .string ⟨#[]⟩]
        replace hbW := Lib.hid (hbW.out.alloc hbW.out.size (.cells #[.bool false, .string ⟨#[]⟩, .string ⟨#[]⟩, .bool false, .string ⟨#[]⟩, .string ⟨#[]⟩] 38))
        replace kg15 := Lib.hid (kg15.out.alloc (.cells #[.bool false, .string ⟨#[]⟩, .string ⟨#[]⟩, .bool false, .string ⟨#[]⟩, .string ⟨#[]⟩] 38))
        replace kg18 := Lib.hid (kg18.out.alloc (.cells #[.bool false, .string ⟨#[]⟩, .string ⟨#[]⟩, .bool false, .string ⟨#[]⟩, .string ⟨#[]⟩] 38))
        have hgn : w6.heap.size ≤ wB.heap.size := hsz.out
        generalize hW : wB.alloc (.cells #[.bool false, .string ⟨#[]⟩, .string ⟨#[]⟩, .bool false, .string ⟨#[]⟩, .string ⟨#[]⟩] 38) = wC at hbW kg15 kg18 kn ⊢
        generalize hgg : wB.heap.size = g20 at kn hgn hnx ⊢
        clear hW hgg
        have kg20 := Lib.hid kn
        have hg20 := Lib.hid hgn
        clear kn hgn
        replace hsz := Lib.hid hbW.out.size
        have hne1520 := Lib.hid hnx
        clear hnx
        have z0 : wC.cell? ⟨g15, 0, none⟩ = some (.bool false) := kg15.out.cell 0
        have y0 : wC.cell? ⟨g20, 0, none⟩ = some (.bool false) := kg20.out.cell 0
        have z1 : wC.cell? ⟨g15, 1, none⟩ = some (.string ⟨#[]⟩) := kg15.out.cell 1
        have y1 : wC.cell? ⟨g20, 1, none⟩ = some (.string ⟨#[]⟩) := kg20.out.cell 1
        have z2 : wC.cell? ⟨g15, 2, none⟩ = some (.string ⟨#[]⟩) := kg15.out.cell 2
        have y2 : wC.cell? ⟨g20, 2, none⟩ = some (.string ⟨#[]⟩) := kg20.out.cell 2
        have z3 : wC.cell? ⟨g15, 3, none⟩ = some (.bool false) := kg15.out.cell 3
        have y3 : wC.cell? ⟨g20, 3, none⟩ = some (.bool false) := kg20.out.cell 3
        have z4 : wC.cell? ⟨g15, 4, none⟩ = some (.string ⟨#[]⟩) := kg15.out.cell 4
        have y4 : wC.cell? ⟨g20, 4, none⟩ = some (.string ⟨#[]⟩) := kg20.out.cell 4
        have z5 : wC.cell? ⟨g15, 5, none⟩ = some (.string ⟨#[]⟩) := kg15.out.cell 5
        have y5 : wC.cell? ⟨g20, 5, none⟩ = some (.string ⟨#[]⟩) := kg20.out.cell 5
        go_wp2_with fail
        exact hQ.out x vx _ L _ _ _ _ _ _ _ _ _ _ _ _ _ _ _ _ _ _ _ _ _ _ _ _ _ _ _ _ _ _ _ _ _ _ _ _ _ _ _ _ _ _ _ _ _ _ _ _ _ _ _ _ _ _ _ _ _ _ _ _ _ _ _ _ _ _ _ _ _ _ _ _ _ _ _ _ _ _ _ _ _ _ _ _ _ _ _ _ _ _ _ _ _ _ _ _ _ _ _ _ _ _ _ _ _ _ _ _ _ _ _ _ _ _ _ _ _ _ _ _ _ _ _ _ _ _ _ _ _ _ _ _ _ _ _ _ _ _ _ _ _ _ _ _ _ _ _ _ _ _ _ _ _ _ _ _ _ _ _ _ _ _ _ _ _ _ _ _ _ _ _ _ _ _ _ _ _ _ _ _ _ _ _ _ _ _ _ _ _ _ _ _ _ _ _ _ _ _ _ _ _ _ _ _ _ _ _ _ _ _ _ _ _ _ _ _ _ _ _ _ _ _ _ _ _ _ _ _ _ _ _ _ _ _ _ _ _ _ _ _ _ _ _ _ _ _ _ _ _ _ _ _ _ _ _ _ _ _ _ _ _ _ _ _ (hP.out.below hbW.out).head
      case inr =>
        have hov : openV L nz = (leafV l, true, 0) := by rw [openV, if_neg hne, hrb, if_pos rfl, ho]
        have hC1 : Hid (Calls Tryz.prog 40 #[.pointer (some ⟨x, 0, none⟩), .int .i64 nz] w5 (RetVal (.tuple #[.agg #[.bool false, .string (natS l.1.1), .string (natS l.1.2), .bool false, .string (natS l.2.1), .string (natS l.2.2)], .bool true, .int .i64 0]) w5)) := Lib.hid (by have h := hC.out; rw [hov] at h; exact h)
        have cT1 : Hid (∀ W, Calls Tryz.prog 21 #[.int .i64 nz] W (RetVal (.int .i64 0) W)) := Lib.hid (fun W => by have h := cT.out W; rw [hrb] at h; exact h)
        clear hC cT hov
        go_wp2_with fail
        refine hC1.out.mono ?_
        rintro en w6 ⟨rfl, hb⟩
        try dsimp only
        replace hP := Lib.hid (hP.out.below hb)
        clear hb hC1 s7
        have hbW := Lib.hid (Below.refl w6.heap.size w6)
        have hsz : Hid (w6.heap.size ≤ w6.heap.size) := Lib.hid (Nat.le_refl _)
        go_upto_region 35 with fail
        have kn := Blk.new w6 38 #[.bool false, .string (natS l.1.1), .string (natS l.1.2), .bool false, .string (natS l.2.1), .string (natS l.2.2)]
        replace hbW := Lib.hid (hbW.out.alloc hbW.out.size (.cells #[.bool false, .string (natS l.1.1), .string (natS l.1.2), .bool false, .string (natS l.2.1), .string (natS l.2.2)] 38))
        have hgn : w6.heap.size ≤ w6.heap.size := hsz.out
        generalize hW : w6.alloc (.cells #[.bool false, .string (natS l.1.1), .string (natS l.1.2), .bool false, .string (natS l.2.1), .string (natS l.2.2)] 38) = w7 at hbW  kn ⊢
        generalize hgg : w6.heap.size = g15 at kn hgn ⊢
        clear hW hgg
        have kg15 := Lib.hid kn
        have hg15 := Lib.hid hgn
        clear kn hgn
        replace hsz := Lib.hid hbW.out.size
        have s7 : w7.cell? ⟨g6, 7, none⟩ = some (.int .i64 nz) := (hP.out.below hbW.out).b6.cell 7
        go_wp2_with fail
        refine (cT1.out _).mono ?_
        rintro en w8 ⟨rfl, hb⟩
        try dsimp only
        replace hbW := Lib.hid (hbW.out.trans (hb.mono hbW.out.size))
        replace kg15 := Lib.hid (kg15.out.below hb)
        clear hb
        replace hsz := Lib.hid hbW.out.size
        clear s7
        have b40 : w8.cell? ⟨g4, 0, none⟩ = some (.slice A4 m c4_) := (hP.out.below hbW.out).b4.cell 0
        have hmp : (0 : Int) < (m : Int) := by have h := hm0.out; have : m ≠ 0 := fun e => hne (h.1 e); omega
        go_upto_region 39 with fail
        clear b40
        have kn := Blk.new w8 44 #[.int .u64 0, .int .u64 0, .int .u64 0, .int .u64 0]
        replace hbW := Lib.hid (hbW.out.alloc hbW.out.size (.cells #[.int .u64 0, .int .u64 0, .int .u64 0, .int .u64 0] 44))
        replace kg15 := Lib.hid (kg15.out.alloc (.cells #[.int .u64 0, .int .u64 0, .int .u64 0, .int .u64 0] 44))
        have hgn : w6.heap.size ≤ w8.heap.size := hsz.out
        generalize hW : w8.alloc (.cells #[.int .u64 0, .int .u64 0, .int .u64 0, .int .u64 0] 44) = w9 at hbW kg15 kn ⊢
        generalize hgg : w8.heap.size = g18 at kn hgn ⊢
        clear hW hgg
        have kg18 := Lib.hid kn
        have hg18 := Lib.hid hgn
        clear kn hgn
        replace hsz := Lib.hid hbW.out.size
        have b40 : w9.cell? ⟨g4, 0, none⟩ = some (.slice A4 m c4_) := (hP.out.below hbW.out).b4.cell 0
        have s7 : w9.cell? ⟨g6, 7, none⟩ = some (.int .i64 nz) := (hP.out.below hbW.out).b6.cell 7
        have cR1 : Hid (Calls Tryz.prog 50 #[.slice A4 m c4_, .int .i64 nz] w9 (RetVal (.tuple #[.agg #[.int .u64 (l.1.1 : Int), .int .u64 (l.1.2 : Int), .int .u64 (l.2.1 : Int), .int .u64 (l.2.2 : Int)], .bool true]) w9)) := Lib.hid (by
          have h := cR.out nz.toNat (by have := roundB_iff.1 hrb; omega) w9 (hP.out.below hbW.out).row
          rw [hrv, show ((nz.toNat : Nat) : Int) = nz by have := roundB_iff.1 hrb; omega] at h
          exact h)
        clear hrv
        go_wp2_with fail
        refine cR1.out.mono ?_
        rintro en wA ⟨rfl, hb⟩
        try dsimp only
        replace hbW := Lib.hid (hbW.out.trans (hb.mono hbW.out.size))
        replace kg15 := Lib.hid (kg15.out.below hb)
        replace kg18 := Lib.hid (kg18.out.below hb)
        clear hb
        replace hsz := Lib.hid hbW.out.size
        clear s7 b40 cR1
        have y0 : wA.cell? ⟨g18, 0, none⟩ = some (.int .u64 0) := kg18.out.cell 0
        have yf0 : wA.frozen? ⟨g18, 0, none⟩ = false := kg18.out.frozen 0
        have y1 : wA.cell? ⟨g18, 1, none⟩ = some (.int .u64 0) := kg18.out.cell 1
        have yf1 : wA.frozen? ⟨g18, 1, none⟩ = false := kg18.out.frozen 1
        have y2 : wA.cell? ⟨g18, 2, none⟩ = some (.int .u64 0) := kg18.out.cell 2
        have yf2 : wA.frozen? ⟨g18, 2, none⟩ = false := kg18.out.frozen 2
        have y3 : wA.cell? ⟨g18, 3, none⟩ = some (.int .u64 0) := kg18.out.cell 3
        have yf3 : wA.frozen? ⟨g18, 3, none⟩ = false := kg18.out.frozen 3
        have hn1518 : Hid (g15 ≠ g18) := Lib.hid (blk_neB kg15.out kg18.out (by decide))
        have kg18b := Lib.hid (Blk.set_ (Blk.set_ (Blk.set_ (Blk.set_ kg18.out 0 (.int .u64 (l.1.1 : Int))) 1 (.int .u64 (l.1.2 : Int))) 2 (.int .u64 (l.2.1 : Int))) 3 (.int .u64 (l.2.2 : Int)))
        have kg15b := Lib.hid (Blk.far (Blk.far (Blk.far (Blk.far kg15.out (p := ⟨g18, 0, none⟩) hn1518.out (.int .u64 (l.1.1 : Int))) (p := ⟨g18, 1, none⟩) hn1518.out (.int .u64 (l.1.2 : Int))) (p := ⟨g18, 2, none⟩) hn1518.out (.int .u64 (l.2.1 : Int))) (p := ⟨g18, 3, none⟩) hn1518.out (.int .u64 (l.2.2 : Int)))
        have hbWb := Lib.hid ((((hbW.out.setCell (p := ⟨g18, 0, none⟩) hg18.out (.int .u64 (l.1.1 : Int))).setCell (p := ⟨g18, 1, none⟩) hg18.out (.int .u64 (l.1.2 : Int))).setCell (p := ⟨g18, 2, none⟩) hg18.out (.int .u64 (l.2.1 : Int))).setCell (p := ⟨g18, 3, none⟩) hg18.out (.int .u64 (l.2.2 : Int)))
        clear kg18 kg15 hbW
        go_upto_region 41 with fail
        generalize hW : ((((wA.setCell ⟨g18, 0, none⟩ (.int .u64 (l.1.1 : Int))).setCell ⟨g18, 1, none⟩ (.int .u64 (l.1.2 : Int))).setCell ⟨g18, 2, none⟩ (.int .u64 (l.2.1 : Int))).setCell ⟨g18, 3, none⟩ (.int .u64 (l.2.2 : Int))) = wB at kg18b kg15b hbWb ⊢
        clear hW y0 yf0 y1 yf1 y2 yf2 y3 yf3
        have kg18 := kg18b
        have kg15 := kg15b
        have hbW := hbWb
        replace hsz := Lib.hid hbW.out.size
        clear kg18b kg15b hbWb
        go_upto_region 42 with fail
        have hnx : g15 ≠ wB.heap.size := Nat.ne_of_lt kg15.out.lt
        have kn := Blk.new wB 38 #[.bool false, .string ⟨#[]⟩, .string ⟨#[]⟩, .bool false, .string ⟨#[]⟩, .string ⟨#[]⟩]
        replace hbW := Lib.hid (hbW.out.alloc hbW.out.size (.cells #[.bool false, .string ⟨#[]⟩, .string ⟨#[]⟩, .bool false, .string ⟨#[]⟩, .string ⟨#[]⟩] 38))
        replace kg15 := Lib.hid (kg15.out.alloc (.cells #[.bool false, .string ⟨#[]⟩, .string ⟨#[]⟩, .bool false, .string ⟨#[]⟩, .string ⟨#[]⟩] 38))
        replace kg18 := Lib.hid (kg18.out.alloc (.cells #[.bool false, .string ⟨#[]⟩, .string ⟨#[]⟩, .bool false, .string ⟨#[]⟩, .string ⟨#[]⟩] 38))
        have hgn : w6.heap.size ≤ wB.heap.size := hsz.out
        generalize hW : wB.alloc (.cells #[.bool false, .string ⟨#[]⟩, .string ⟨#[]⟩, .bool false, .string ⟨#[]⟩, .string ⟨#[]⟩] 38) = wC at hbW kg15 kg18 kn ⊢
        generalize hgg : wB.heap.size = g20 at kn hgn hnx ⊢
        clear hW hgg
        have kg20 := Lib.hid kn
        have hg20 := Lib.hid hgn
        clear kn hgn
        replace hsz := Lib.hid hbW.out.size
        have hne1520 := Lib.hid hnx
        clear hnx
        have y0 : wC.cell? ⟨g18, 0, none⟩ = some (.int .u64 (l.1.1 : Int)) := kg18.out.cell 0
        have y1 : wC.cell? ⟨g18, 1, none⟩ = some (.int .u64 (l.1.2 : Int)) := kg18.out.cell 1
        have y2 : wC.cell? ⟨g18, 2, none⟩ = some (.int .u64 (l.2.1 : Int)) := kg18.out.cell 2
        have y3 : wC.cell? ⟨g18, 3, none⟩ = some (.int .u64 (l.2.2 : Int)) := kg18.out.cell 3
        have cD := Lib.hid (rlTold_any l wC hlA)
        go_wp2_with fail
        refine cD.out.mono ?_
        rintro en wD ⟨rfl, hb⟩
        try dsimp only
        replace hbW := Lib.hid (hbW.out.trans (hb.mono hbW.out.size))
        replace kg15 := Lib.hid (kg15.out.below hb)
        replace kg18 := Lib.hid (kg18.out.below hb)
        replace kg20 := Lib.hid (kg20.out.below hb)
        clear hb
        replace hsz := Lib.hid hbW.out.size
        clear y0 y1 y2 y3 cD
        simp only [leafV, leafE]
        have y0 : wD.cell? ⟨g20, 0, none⟩ = some (.bool false) := kg20.out.cell 0
        have yf0 : wD.frozen? ⟨g20, 0, none⟩ = false := kg20.out.frozen 0
        have y1 : wD.cell? ⟨g20, 1, none⟩ = some (.string ⟨#[]⟩) := kg20.out.cell 1
        have yf1 : wD.frozen? ⟨g20, 1, none⟩ = false := kg20.out.frozen 1
        have y2 : wD.cell? ⟨g20, 2, none⟩ = some (.string ⟨#[]⟩) := kg20.out.cell 2
        have yf2 : wD.frozen? ⟨g20, 2, none⟩ = false := kg20.out.frozen 2
        have y3 : wD.cell? ⟨g20, 3, none⟩ = some (.bool false) := kg20.out.cell 3
        have yf3 : wD.frozen? ⟨g20, 3, none⟩ = false := kg20.out.frozen 3
        have y4 : wD.cell? ⟨g20, 4, none⟩ = some (.string ⟨#[]⟩) := kg20.out.cell 4
        have yf4 : wD.frozen? ⟨g20, 4, none⟩ = false := kg20.out.frozen 4
        have y5 : wD.cell? ⟨g20, 5, none⟩ = some (.string ⟨#[]⟩) := kg20.out.cell 5
        have yf5 : wD.frozen? ⟨g20, 5, none⟩ = false := kg20.out.frozen 5
        have hn1520 : Hid (g15 ≠ g20) := Lib.hid hne1520.out
        have kg20b := Lib.hid (Blk.set_ (Blk.set_ (Blk.set_ (Blk.set_ (Blk.set_ (Blk.set_ kg20.out 0 (.bool false)) 1 (.string (natS l.1.1))) 2 (.string (natS l.1.2))) 3 (.bool false)) 4 (.string (natS l.2.1))) 5 (.string (natS l.2.2)))
        have kg15b := Lib.hid (Blk.far (Blk.far (Blk.far (Blk.far (Blk.far (Blk.far kg15.out (p := ⟨g20, 0, none⟩) hn1520.out (.bool false)) (p := ⟨g20, 1, none⟩) hn1520.out (.string (natS l.1.1))) (p := ⟨g20, 2, none⟩) hn1520.out (.string (natS l.1.2))) (p := ⟨g20, 3, none⟩) hn1520.out (.bool false)) (p := ⟨g20, 4, none⟩) hn1520.out (.string (natS l.2.1))) (p := ⟨g20, 5, none⟩) hn1520.out (.string (natS l.2.2)))
        have hbWb := Lib.hid ((((((hbW.out.setCell (p := ⟨g20, 0, none⟩) hg20.out (.bool false)).setCell (p := ⟨g20, 1, none⟩) hg20.out (.string (natS l.1.1))).setCell (p := ⟨g20, 2, none⟩) hg20.out (.string (natS l.1.2))).setCell (p := ⟨g20, 3, none⟩) hg20.out (.bool false)).setCell (p := ⟨g20, 4, none⟩) hg20.out (.string (natS l.2.1))).setCell (p := ⟨g20, 5, none⟩) hg20.out (.string (natS l.2.2)))
        clear kg20 kg15 hbW kg18
        go_upto_region 44 with fail
        generalize hW : ((((((wD.setCell ⟨g20, 0, none⟩ (.bool false)).setCell ⟨g20, 1, none⟩ (.string (natS l.1.1))).setCell ⟨g20, 2, none⟩ (.string (natS l.1.2))).setCell ⟨g20, 3, none⟩ (.bool false)).setCell ⟨g20, 4, none⟩ (.string (natS l.2.1))).setCell ⟨g20, 5, none⟩ (.string (natS l.2.2))) = wE at kg20b kg15b hbWb ⊢
        clear hW y0 yf0 y1 yf1 y2 yf2 y3 yf3 y4 yf4 y5 yf5
        have kg20 := kg20b
        have kg15 := kg15b
        have hbW := hbWb
        clear kg20b kg15b hbWb
        have z0 : wE.cell? ⟨g15, 0, none⟩ = some (.bool false) := kg15.out.cell 0
        have y0 : wE.cell? ⟨g20, 0, none⟩ = some (.bool false) := kg20.out.cell 0
        have z1 : wE.cell? ⟨g15, 1, none⟩ = some (.string (natS l.1.1)) := kg15.out.cell 1
        have y1 : wE.cell? ⟨g20, 1, none⟩ = some (.string (natS l.1.1)) := kg20.out.cell 1
        have z2 : wE.cell? ⟨g15, 2, none⟩ = some (.string (natS l.1.2)) := kg15.out.cell 2
        have y2 : wE.cell? ⟨g20, 2, none⟩ = some (.string (natS l.1.2)) := kg20.out.cell 2
        have z3 : wE.cell? ⟨g15, 3, none⟩ = some (.bool false) := kg15.out.cell 3
        have y3 : wE.cell? ⟨g20, 3, none⟩ = some (.bool false) := kg20.out.cell 3
        have z4 : wE.cell? ⟨g15, 4, none⟩ = some (.string (natS l.2.1)) := kg15.out.cell 4
        have y4 : wE.cell? ⟨g20, 4, none⟩ = some (.string (natS l.2.1)) := kg20.out.cell 4
        have z5 : wE.cell? ⟨g15, 5, none⟩ = some (.string (natS l.2.2)) := kg15.out.cell 5
        have y5 : wE.cell? ⟨g20, 5, none⟩ = some (.string (natS l.2.2)) := kg20.out.cell 5
        go_wp2_with fail
        exact hQ.out x vx _ L _ _ _ _ _ _ _ _ _ _ _ _ _ _ _ _ _ _ _ _ _ _ _ _ _ _ _ _ _ _ _ _ _ _ _ _ _ _ _ _ _ _ _ _ _ _ _ _ _ _ _ _ _ _ _ _ _ _ _ _ _ _ _ _ _ _ _ _ _ _ _ _ _ _ _ _ _ _ _ _ _ _ _ _ _ _ _ _ _ _ _ _ _ _ _ _ _ _ _ _ _ _ _ _ _ _ _ _ _ _ _ _ _ _ _ _ _ _ _ _ _ _ _ _ _ _ _ _ _ _ _ _ _ _ _ _ _ _ _ _ _ _ _ _ _ _ _ _ _ _ _ _ _ _ _ _ _ _ _ _ _ _ _ _ _ _ _ _ _ _ _ _ _ _ _ _ _ _ _ _ _ _ _ _ _ _ _ _ _ _ _ _ _ _ _ _ _ _ _ _ _ _ _ _ _ _ _ _ _ _ _ _ _ _ _ _ _ _ _ _ _ _ _ _ _ _ _ _ _ _ _ _ _ _ _ _ _ _ _ _ _ _ _ _ _ _ _ _ _ _ _ _ _ _ _ _ _ _ _ _ _ _ _ _ (hP.out.below hbW.out).head
open Go.RowKit Go.Sort
attribute [local go_sem] Oper.semAt_some
set_option maxRecDepth 100000 in
set_option maxHeartbeats 16000000 in
theorem plays_close (c1 c9 c10 c11 c12 c13 c14 c15 c16 c17 c18 c19 c20 c21 c22 c23 c24 c25 c26 c27 c28 c29 c30 c31 c32 c33 c34 c35 c36 c37 c38 c39 c40 c41 c42 c43 c44 c45 c46 c47 c48 c50 c51 c52 c53 c54 c55 c56 c57 c58 c59 c60 c61 c62 c63 c64 c65 c66 c67 c68 c69 c70 c71 c72 c73 c74 c75 c76 c77 c78 c79 c80 c81 c82 c83 c84 c85 c86 c87 c88 c89 c90 c91 c92 c93 c94 c95 c96 c97 c98 c99 c100 c101 c102 c103 c104 c105 c106 c107 c108 c109 c110 c111 c112 c113 c114 c115 c116 c117 c118 c119 c120 c121 c122 c123 c124 c125 c126 c127 c128 c129 c130 c131 c132 c133 c134 c135 c136 c137 c138 c139 c140 c141 c142 c143 c144 c145 c146 c147 c148 c149 c150 c151 c152 c153 c154 c155 c156 c157 c158 c159 c160 c161 c162 c163 c164 c165 c166 c167 c168 c169 c170 c171 c172 c173 c174 c175 c176 c177 c178 c179 c180 c181 c182 c183 c184 c185 c186 c187 c188 c189 c190 c191 c192 c193 c194 c195 c196 c197 c198 c199 c200 c201 c202 c203 c204 c205 c206 c207 c208 c209 c210 c211 c212 c213 c214 c215 c216 c217 c218 c219 c220 c221 c222 c223 c224 c225 c226 c227 c228 c229 c230 c231 c232 c233 c234 c235 c236 c237 c238 c239 c240 c241 c242 c243 c244 c245 c246 c247 c248 c249 c250 c251 c252 c253 c254 c255 c256 c257 c258 c259 c260 c261 c262 c263 c264 c265 c266 c267 c268 c269 c270 c271 c272 c273 c274 c275 c276 c277 c278 c279 c280 c281 c282 c283 c284 c285 c286 c287 c288 c289 c290 c291 c292 c293 c294 c295 c296 c297 c298 c299 c300 c301 : Value) (gs so n sc g2 g4 g6 g7 x i B : Nat) (vx wv : Value) (L : List Lf) (ds : List Deferred) (w w5 : World) (nz c q0 q1 q2 q3 : Int) (n1 : Bool) (a1 d1 : ByteArray) (n2 : Bool) (a2 d2 : ByteArray) (Q : Exit → Act → World → Prop)
    (hz1 : a1.size ≤ 9223372036854775807) (hz2 : d1.size ≤ 9223372036854775807) (hz3 : a2.size ≤ 9223372036854775807) (hz4 : d2.size ≤ 9223372036854775807)
    (hq : Hid (c = 0 → ∃ l : Lf, Lfp l ∧ n1 = false ∧ a1 = natS l.1.1 ∧ d1 = natS l.1.2 ∧ n2 = false ∧ a2 = natS l.2.1 ∧ d2 = natS l.2.2 ∧ #[Value.int .u64 q0, .int .u64 q1, .int .u64 q2, .int .u64 q3] = #[.int .u64 (l.1.1 : Int), .int .u64 (l.1.2 : Int), .int .u64 (l.2.1 : Int), .int .u64 (l.2.2 : Int)]))
    (hcE : Hid (c = chkLf n1 a1 d1 n2 a2 d2)) (hP : Hid (PlS B g2 g4 g6 g7 x vx wv L L #[.int .i64 5, .bool n1, .string a1, .string d1, .bool n2, .string a2, .string d2, .int .i64 nz] #[.int .u64 q0, .int .u64 q1, .int .u64 q2, .int .u64 q3] ds w w5))
    (hQ : ∀ (y : Nat) (vy wy : Value) (L' : List Lf) (u8 u9 u10 u11 u12 u13 u14 u15 u16 u17 u18 u19 u20 u21 u22 u23 u24 u50 u51 u52 u53 u54 u55 u56 u57 u58 u59 u60 u61 u62 u63 u64 u65 u66 u67 u68 u69 u70 u71 u72 u73 u74 u75 u76 u77 u78 u79 u80 u81 u82 u83 u84 u85 u86 u87 u88 u89 u90 u91 u92 u93 u94 u95 u96 u97 u98 u99 u100 u101 u102 u103 u104 u105 u106 u107 u108 u109 u110 u111 u112 u113 u114 u115 u116 u117 u118 u119 u120 u121 u122 u123 u124 u125 u126 u127 u128 u129 u130 u131 u132 u133 u134 u135 u136 u137 u138 u139 u140 u141 u142 u143 u144 u145 u146 u147 u148 u149 u150 u151 u152 u153 u154 u155 u156 u157 u158 u159 u160 u161 u162 u163 u164 u165 u166 u167 u168 u169 u170 u171 u172 u173 u174 u175 u176 u177 u178 u179 u180 u181 u182 u183 u184 u185 u186 u187 u188 u189 u190 u191 u192 u193 u194 u195 u196 u197 u198 u199 u200 u201 u202 u203 u204 u205 u206 u207 u208 u209 u210 u211 u212 u213 u214 u215 u216 u217 u218 u219 u220 u221 u222 u223 u224 u225 u226 u227 u228 u229 u230 u231 u232 u233 u234 u235 u236 u237 u238 u239 u240 u241 u242 u243 u244 u245 u246 u247 u248 u249 u250 u251 u252 u253 u254 u255 u256 u257 u258 u259 u260 u261 u262 u263 u264 u265 u266 u267 u268 u269 u270 u271 u272 u273 u274 u275 u276 u277 u278 u279 u280 u281 u282 u283 u284 u285 u286 u287 u288 u289 u290 u291 u292 u293 u294 : Value) (es : List Deferred) (W : World), PlH B g2 g4 y vy wy L' es w W → Q .normal { tmps := #[.slice (some ⟨gs, so, none⟩) n sc, c1, .pointer (some ⟨g2, 0, none⟩), .pointer (some ⟨y, 0, none⟩), .pointer (some ⟨g4, 0, none⟩), .int .i64 (i : Int), .pointer (some ⟨g6, 0, none⟩), .pointer (some ⟨g7, 0, none⟩), u8, u9, u10, u11, u12, u13, u14, u15, u16, u17, u18, u19, u20, u21, u22, u23, u24, c25, c26, c27, c28, c29, c30, c31, c32, c33, c34, c35, c36, c37, c38, c39, c40, c41, c42, c43, c44, c45, c46, c47, c48, .int .i64 5, u50, u51, u52, u53, u54, u55, u56, u57, u58, u59, u60, u61, u62, u63, u64, u65, u66, u67, u68, u69, u70, u71, u72, u73, u74, u75, u76, u77, u78, u79, u80, u81, u82, u83, u84, u85, u86, u87, u88, u89, u90, u91, u92, u93, u94, u95, u96, u97, u98, u99, u100, u101, u102, u103, u104, u105, u106, u107, u108, u109, u110, u111, u112, u113, u114, u115, u116, u117, u118, u119, u120, u121, u122, u123, u124, u125, u126, u127, u128, u129, u130, u131, u132, u133, u134, u135, u136, u137, u138, u139, u140, u141, u142, u143, u144, u145, u146, u147, u148, u149, u150, u151, u152, u153, u154, u155, u156, u157, u158, u159, u160, u161, u162, u163, u164, u165, u166, u167, u168, u169, u170, u171, u172, u173, u174, u175, u176, u177, u178, u179, u180, u181, u182, u183, u184, u185, u186, u187, u188, u189, u190, u191, u192, u193, u194, u195, u196, u197, u198, u199, u200, u201, u202, u203, u204, u205, u206, u207, u208, u209, u210, u211, u212, u213, u214, u215, u216, u217, u218, u219, u220, u221, u222, u223, u224, u225, u226, u227, u228, u229, u230, u231, u232, u233, u234, u235, u236, u237, u238, u239, u240, u241, u242, u243, u244, u245, u246, u247, u248, u249, u250, u251, u252, u253, u254, u255, u256, u257, u258, u259, u260, u261, u262, u263, u264, u265, u266, u267, u268, u269, u270, u271, u272, u273, u274, u275, u276, u277, u278, u279, u280, u281, u282, u283, u284, u285, u286, u287, u288, u289, u290, u291, u292, u293, u294, c295, c296, c297, c298, c299, c300, c301], defers := es } W)
    (hX : ∀ (y : Nat) (vy wy : Value) (L' : List Lf) (u8 u9 u10 u11 u12 u13 u14 u15 u16 u17 u18 u19 u20 u21 u22 u23 u24 u50 u51 u52 u53 u54 u55 u56 u57 u58 u59 u60 u61 u62 u63 u64 u65 u66 u67 u68 u69 u70 u71 u72 u73 u74 u75 u76 u77 u78 u79 u80 u81 u82 u83 u84 u85 u86 u87 u88 u89 u90 u91 u92 u93 u94 u95 u96 u97 u98 u99 u100 u101 u102 u103 u104 u105 u106 u107 u108 u109 u110 u111 u112 u113 u114 u115 u116 u117 u118 u119 u120 u121 u122 u123 u124 u125 u126 u127 u128 u129 u130 u131 u132 u133 u134 u135 u136 u137 u138 u139 u140 u141 u142 u143 u144 u145 u146 u147 u148 u149 u150 u151 u152 u153 u154 u155 u156 u157 u158 u159 u160 u161 u162 u163 u164 u165 u166 u167 u168 u169 u170 u171 u172 u173 u174 u175 u176 u177 u178 u179 u180 u181 u182 u183 u184 u185 u186 u187 u188 u189 u190 u191 u192 u193 u194 u195 u196 u197 u198 u199 u200 u201 u202 u203 u204 u205 u206 u207 u208 u209 u210 u211 u212 u213 u214 u215 u216 u217 u218 u219 u220 u221 u222 u223 u224 u225 u226 u227 u228 u229 u230 u231 u232 u233 u234 u235 u236 u237 u238 u239 u240 u241 u242 u243 u244 u245 u246 u247 u248 u249 u250 u251 u252 u253 u254 u255 u256 u257 u258 u259 u260 u261 u262 u263 u264 u265 u266 u267 u268 u269 u270 u271 u272 u273 u274 u275 u276 u277 u278 u279 u280 u281 u282 u283 u284 u285 u286 u287 u288 u289 u290 u291 u292 u293 u294 : Value) (es : List Deferred) (W : World), PlH B g2 g4 y vy wy L' es w W → Q (.exit 1) { tmps := #[.slice (some ⟨gs, so, none⟩) n sc, c1, .pointer (some ⟨g2, 0, none⟩), .pointer (some ⟨y, 0, none⟩), .pointer (some ⟨g4, 0, none⟩), .int .i64 (i : Int), .pointer (some ⟨g6, 0, none⟩), .pointer (some ⟨g7, 0, none⟩), u8, u9, u10, u11, u12, u13, u14, u15, u16, u17, u18, u19, u20, u21, u22, u23, u24, c25, c26, c27, c28, c29, c30, c31, c32, c33, c34, c35, c36, c37, c38, c39, c40, c41, c42, c43, c44, c45, c46, c47, c48, .int .i64 5, u50, u51, u52, u53, u54, u55, u56, u57, u58, u59, u60, u61, u62, u63, u64, u65, u66, u67, u68, u69, u70, u71, u72, u73, u74, u75, u76, u77, u78, u79, u80, u81, u82, u83, u84, u85, u86, u87, u88, u89, u90, u91, u92, u93, u94, u95, u96, u97, u98, u99, u100, u101, u102, u103, u104, u105, u106, u107, u108, u109, u110, u111, u112, u113, u114, u115, u116, u117, u118, u119, u120, u121, u122, u123, u124, u125, u126, u127, u128, u129, u130, u131, u132, u133, u134, u135, u136, u137, u138, u139, u140, u141, u142, u143, u144, u145, u146, u147, u148, u149, u150, u151, u152, u153, u154, u155, u156, u157, u158, u159, u160, u161, u162, u163, u164, u165, u166, u167, u168, u169, u170, u171, u172, u173, u174, u175, u176, u177, u178, u179, u180, u181, u182, u183, u184, u185, u186, u187, u188, u189, u190, u191, u192, u193, u194, u195, u196, u197, u198, u199, u200, u201, u202, u203, u204, u205, u206, u207, u208, u209, u210, u211, u212, u213, u214, u215, u216, u217, u218, u219, u220, u221, u222, u223, u224, u225, u226, u227, u228, u229, u230, u231, u232, u233, u234, u235, u236, u237, u238, u239, u240, u241, u242, u243, u244, u245, u246, u247, u248, u249, u250, u251, u252, u253, u254, u255, u256, u257, u258, u259, u260, u261, u262, u263, u264, u265, u266, u267, u268, u269, u270, u271, u272, u273, u274, u275, u276, u277, u278, u279, u280, u281, u282, u283, u284, u285, u286, u287, u288, u289, u290, u291, u292, u293, u294, c295, c296, c297, c298, c299, c300, c301], defers := es } W)
    (hR : ∀ (u8 u9 u10 u11 u12 u13 u14 u15 u16 u17 u18 u19 u20 u21 u22 u23 u24 u50 u51 u52 u53 u54 u55 u56 u57 u58 u59 u60 u61 u62 u63 u64 u65 u66 u67 u68 u69 u70 u71 u72 u73 u74 u75 u76 u77 u78 u79 u80 u81 u82 u83 u84 u85 u86 u87 u88 u89 u90 u91 u92 u93 u94 u95 u96 u97 u98 u99 u100 u101 u102 u103 u104 u105 u106 u107 u108 u109 u110 u111 u112 u113 u114 u115 u116 u117 u118 u119 u120 u121 u122 u123 u124 u125 u126 u127 u128 u129 u130 u131 u132 u133 u134 u135 u136 u137 u138 u139 u140 u141 u142 u143 u144 u145 u146 u147 u148 u149 u150 u151 u152 u153 u154 u155 u156 u157 u158 u159 u160 u161 u162 u163 u164 u165 u166 u167 u168 u169 u170 u171 u172 u173 u174 u175 u176 u177 u178 u179 u180 u181 u182 u183 u184 u185 u186 u187 u188 u189 u190 u191 u192 u193 u194 u195 u196 u197 u198 u199 u200 u201 u202 u203 u204 u205 u206 u207 u208 u209 u210 u211 u212 u213 u214 u215 u216 u217 u218 u219 u220 u221 u222 u223 u224 u225 u226 u227 u228 u229 u230 u231 u232 u233 u234 u235 u236 u237 u238 u239 u240 u241 u242 u243 u244 u245 u246 u247 u248 u249 u250 u251 u252 u253 u254 u255 u256 u257 u258 u259 u260 u261 u262 u263 u264 u265 u266 u267 u268 u269 u270 u271 u272 u273 u274 u275 u276 u277 u278 u279 u280 u281 u282 u283 u284 u285 u286 u287 u288 u289 u290 u291 u292 u293 u294 : Value) (es : List Deferred) (W : World), Blk W g2 4 #[.bool true] → Marks B es W → Below B w W → Q .ret { tmps := #[.slice (some ⟨gs, so, none⟩) n sc, c1, .pointer (some ⟨g2, 0, none⟩), .pointer (some ⟨x, 0, none⟩), .pointer (some ⟨g4, 0, none⟩), .int .i64 (i : Int), .pointer (some ⟨g6, 0, none⟩), .pointer (some ⟨g7, 0, none⟩), u8, u9, u10, u11, u12, u13, u14, u15, u16, u17, u18, u19, u20, u21, u22, u23, u24, c25, c26, c27, c28, c29, c30, c31, c32, c33, c34, c35, c36, c37, c38, c39, c40, c41, c42, c43, c44, c45, c46, c47, c48, .int .i64 5, u50, u51, u52, u53, u54, u55, u56, u57, u58, u59, u60, u61, u62, u63, u64, u65, u66, u67, u68, u69, u70, u71, u72, u73, u74, u75, u76, u77, u78, u79, u80, u81, u82, u83, u84, u85, u86, u87, u88, u89, u90, u91, u92, u93, u94, u95, u96, u97, u98, u99, u100, u101, u102, u103, u104, u105, u106, u107, u108, u109, u110, u111, u112, u113, u114, u115, u116, u117, u118, u119, u120, u121, u122, u123, u124, u125, u126, u127, u128, u129, u130, u131, u132, u133, u134, u135, u136, u137, u138, u139, u140, u141, u142, u143, u144, u145, u146, u147, u148, u149, u150, u151, u152, u153, u154, u155, u156, u157, u158, u159, u160, u161, u162, u163, u164, u165, u166, u167, u168, u169, u170, u171, u172, u173, u174, u175, u176, u177, u178, u179, u180, u181, u182, u183, u184, u185, u186, u187, u188, u189, u190, u191, u192, u193, u194, u195, u196, u197, u198, u199, u200, u201, u202, u203, u204, u205, u206, u207, u208, u209, u210, u211, u212, u213, u214, u215, u216, u217, u218, u219, u220, u221, u222, u223, u224, u225, u226, u227, u228, u229, u230, u231, u232, u233, u234, u235, u236, u237, u238, u239, u240, u241, u242, u243, u244, u245, u246, u247, u248, u249, u250, u251, u252, u253, u254, u255, u256, u257, u258, u259, u260, u261, u262, u263, u264, u265, u266, u267, u268, u269, u270, u271, u272, u273, u274, u275, u276, u277, u278, u279, u280, u281, u282, u283, u284, u285, u286, u287, u288, u289, u290, u291, u292, u293, u294, c295, c296, c297, c298, c299, c300, c301], defers := es } W) :
    Code.wp Tryz.prog swCode Q { tmps := #[.slice (some ⟨gs, so, none⟩) n sc, c1, .pointer (some ⟨g2, 0, none⟩), .pointer (some ⟨x, 0, none⟩), .pointer (some ⟨g4, 0, none⟩), .int .i64 (i : Int), .pointer (some ⟨g6, 0, none⟩), .pointer (some ⟨g7, 0, none⟩), .int .i64 c, c9, c10, c11, c12, c13, c14, c15, c16, c17, c18, c19, c20, c21, c22, c23, c24, c25, c26, c27, c28, c29, c30, c31, c32, c33, c34, c35, c36, c37, c38, c39, c40, c41, c42, c43, c44, c45, c46, c47, c48, .int .i64 5, c50, c51, c52, c53, c54, c55, c56, c57, c58, c59, c60, c61, c62, c63, c64, c65, c66, c67, c68, c69, c70, c71, c72, c73, c74, c75, c76, c77, c78, c79, c80, c81, c82, c83, c84, c85, c86, c87, c88, c89, c90, c91, c92, c93, c94, c95, c96, c97, c98, c99, c100, c101, c102, c103, c104, c105, c106, c107, c108, c109, c110, c111, c112, c113, c114, c115, c116, c117, c118, c119, c120, c121, c122, c123, c124, c125, c126, c127, c128, c129, c130, c131, c132, c133, c134, c135, c136, c137, c138, c139, c140, c141, c142, c143, c144, c145, c146, c147, c148, c149, c150, c151, c152, c153, c154, c155, c156, c157, c158, c159, c160, c161, c162, c163, c164, c165, c166, c167, c168, c169, c170, c171, c172, c173, c174, c175, c176, c177, c178, c179, c180, c181, c182, c183, c184, c185, c186, c187, c188, c189, c190, c191, c192, c193, c194, c195, c196, c197, c198, c199, c200, c201, c202, c203, c204, c205, c206, c207, c208, c209, c210, c211, c212, c213, c214, c215, c216, c217, c218, c219, c220, c221, c222, c223, c224, c225, c226, c227, c228, c229, c230, c231, c232, c233, c234, c235, c236, c237, c238, c239, c240, c241, c242, c243, c244, c245, c246, c247, c248, c249, c250, c251, c252, c253, c254, c255, c256, c257, c258, c259, c260, c261, c262, c263, c264, c265, c266, c267, c268, c269, c270, c271, c272, c273, c274, c275, c276, c277, c278, c279, c280, c281, c282, c283, c284, c285, c286, c287, c288, c289, c290, c291, c292, c293, c294, c295, c296, c297, c298, c299, c300, c301], defers := ds } w5 := by
  conv => arg 2; whnf
  have hQ := Lib.hid hQ
  have hX := Lib.hid hX
  have hR := Lib.hid hR
  have cAw := Lib.hid (fun W => lawake_any W)
  have hC := Lib.hid (lClose_any B x vx L nz w5 hP.out.lam)
  have cT := Lib.hid (fun W => lturnedd_any nz W)
  have hOk := Lib.hid hP.out.lam.ok
  have hlen := hP.out.lam.len
  have cR : Hid (∀ d : Nat, d ≤ 64 → ∀ W, RRow W B wv L → B ≤ W.heap.size → Calls Tryz.prog 51 #[wv, .int .i64 (d : Int)] W (fun e w' => ∃ v', e = .returned (.tuple #[v', .int .i64 (rcloseR L d).2]) ∧ RRow w' B v' (rcloseR L d).1 ∧ Below W.heap.size W w')) := Lib.hid (fun d hd W h hb => rlclose_any B wv L d W h hb hOk.out hd hlen)
  obtain ⟨m, hm⟩ : ∃ m, m = L.length := ⟨_, rfl⟩
  obtain ⟨A4, c4_, hwv, -⟩ := RRow.form hP.out.row
  rw [← hm] at hwv
  subst hwv
  have hm0 : Hid (m = 0 ↔ L = []) := Lib.hid (by rw [hm]; exact List.length_eq_zero_iff)
  replace hm := Lib.hid hm
  clear hq hlen
  have b40 : w5.cell? ⟨g4, 0, none⟩ = some (.slice A4 m c4_) := hP.out.b4.cell 0
  by_cases h80 : 80 < m
  case pos =>
    have h80z : (80 : Int) < (m : Int) := by omega
    clear hC cT cR
    go_wp2_with fail
    refine (cAw.out _).mono ?_
    rintro en w6 ⟨rfl, hb⟩
    try dsimp only
    replace hP := Lib.hid (hP.out.below hb)
    clear hb cAw b40
    have r0 : w6.cell? ⟨g2, 0, none⟩ = some (.bool false) := hP.out.b2.cell 0
    have r1 := hP.out.b2.frozen 0
    have k2 := Lib.hid (hP.out.b2.set_ 0 (.bool true))
    have hM := Lib.hid (hP.out.mks.keep (w' := w6.setCell ⟨g2, 0, none⟩ (.bool true)) (fun k hk => Below.heap_setCell w6 ⟨g2, 0, none⟩ _ k (fun e => blk_notD hP.out.b2 hk e.symm)))
    have hB2 := Lib.hid (hP.out.bel.setCell (p := ⟨g2, 0, none⟩) hP.out.lo.1 (.bool true))
    clear hP
    go_wp2_with fail
    exact hR.out _ _ _ _ _ _ _ _ _ _ _ _ _ _ _ _ _ _ _ _ _ _ _ _ _ _ _ _ _ _ _ _ _ _ _ _ _ _ _ _ _ _ _ _ _ _ _ _ _ _ _ _ _ _ _ _ _ _ _ _ _ _ _ _ _ _ _ _ _ _ _ _ _ _ _ _ _ _ _ _ _ _ _ _ _ _ _ _ _ _ _ _ _ _ _ _ _ _ _ _ _ _ _ _ _ _ _ _ _ _ _ _ _ _ _ _ _ _ _ _ _ _ _ _ _ _ _ _ _ _ _ _ _ _ _ _ _ _ _ _ _ _ _ _ _ _ _ _ _ _ _ _ _ _ _ _ _ _ _ _ _ _ _ _ _ _ _ _ _ _ _ _ _ _ _ _ _ _ _ _ _ _ _ _ _ _ _ _ _ _ _ _ _ _ _ _ _ _ _ _ _ _ _ _ _ _ _ _ _ _ _ _ _ _ _ _ _ _ _ _ _ _ _ _ _ _ _ _ _ _ _ _ _ _ _ _ _ _ _ _ _ _ _ _ _ _ _ _ _ _ _ _ _ _ _ _ _ _ _ _ _ _ _ _ k2.out hM.out hB2.out
  case neg =>
    have h80z : ¬ (80 : Int) < (m : Int) := by omega
    have s7 : w5.cell? ⟨g6, 7, none⟩ = some (.int .i64 nz) := hP.out.b6.cell 7
    clear cAw
    by_cases hne : L = []
    case pos =>
      obtain ⟨LC, hLC⟩ : ∃ K, K = L := ⟨_, rfl⟩
      have hov : closeR L nz = (LC, 0) := by rw [hLC, hne]; simp [closeR, closeS]
      replace hLC := Lib.hid hLC
      cases hrb : roundB nz
      case true =>
        have hC1 : Hid (Calls Tryz.prog 39 #[.pointer (some ⟨x, 0, none⟩), .int .i64 nz] w5 (fun e w' => e = .returned (.int .i64 0) ∧ ∃ v', LamS w' B x v' LC ∧ But (fun k => k = x) w5 w')) := Lib.hid (by have h := hC.out; rw [hov] at h; exact h)
        have cT1 : Hid (∀ W, Calls Tryz.prog 21 #[.int .i64 nz] W (RetVal (.int .i64 0) W)) := Lib.hid (fun W => by have h := cT.out W; rw [hrb] at h; exact h)
        clear hC cT
        go_wp2_with fail
        refine hC1.out.mono ?_
        rintro en w6 ⟨rfl, vx6, hl6, hbt⟩
        try dsimp only
        have hP6 := Lib.hid (hP.out.butL (hbt.wide (r' := fun k => k = x ∨ vx.ownBlock = some k) (fun k _ h => .inl h)) hl6)
        clear hbt hC1 s7 b40 hP hl6
        have hP := hP6
        clear hP6
        have s7 : w6.cell? ⟨g6, 7, none⟩ = some (.int .i64 nz) := hP.out.b6.cell 7
        go_wp2_with fail
        refine (cT1.out _).mono ?_
        rintro en w7 ⟨rfl, hb⟩
        try dsimp only
        replace hP := Lib.hid (hP.out.below hb)
        clear hb s7
        have b40 : w7.cell? ⟨g4, 0, none⟩ = some (.slice A4 m c4_) := hP.out.b4.cell 0
        obtain rfl : m = 0 := hm0.out.2 hne
        obtain rfl : LC = L := hLC.out
        go_wp2_with fail
        exact hQ.out x vx6 _ _ _ _ _ _ _ _ _ _ _ _ _ _ _ _ _ _ _ _ _ _ _ _ _ _ _ _ _ _ _ _ _ _ _ _ _ _ _ _ _ _ _ _ _ _ _ _ _ _ _ _ _ _ _ _ _ _ _ _ _ _ _ _ _ _ _ _ _ _ _ _ _ _ _ _ _ _ _ _ _ _ _ _ _ _ _ _ _ _ _ _ _ _ _ _ _ _ _ _ _ _ _ _ _ _ _ _ _ _ _ _ _ _ _ _ _ _ _ _ _ _ _ _ _ _ _ _ _ _ _ _ _ _ _ _ _ _ _ _ _ _ _ _ _ _ _ _ _ _ _ _ _ _ _ _ _ _ _ _ _ _ _ _ _ _ _ _ _ _ _ _ _ _ _ _ _ _ _ _ _ _ _ _ _ _ _ _ _ _ _ _ _ _ _ _ _ _ _ _ _ _ _ _ _ _ _ _ _ _ _ _ _ _ _ _ _ _ _ _ _ _ _ _ _ _ _ _ _ _ _ _ _ _ _ _ _ _ _ _ _ _ _ _ _ _ _ _ _ _ _ _ _ _ _ _ _ _ _ _ _ _ _ _ _ _ hP.out.head
      case false =>
        have hC1 : Hid (Calls Tryz.prog 39 #[.pointer (some ⟨x, 0, none⟩), .int .i64 nz] w5 (fun e w' => e = .returned (.int .i64 0) ∧ ∃ v', LamS w' B x v' LC ∧ But (fun k => k = x) w5 w')) := Lib.hid (by have h := hC.out; rw [hov] at h; exact h)
        have cT1 : Hid (∀ W, Calls Tryz.prog 21 #[.int .i64 nz] W (RetVal (.int .i64 2) W)) := Lib.hid (fun W => by have h := cT.out W; rw [hrb] at h; exact h)
        clear hC cT
        go_wp2_with fail
        refine hC1.out.mono ?_
        rintro en w6 ⟨rfl, vx6, hl6, hbt⟩
        try dsimp only
        have hP6 := Lib.hid (hP.out.butL (hbt.wide (r' := fun k => k = x ∨ vx.ownBlock = some k) (fun k _ h => .inl h)) hl6)
        clear hbt hC1 s7 b40 hP hl6
        have hP := hP6
        clear hP6
        have s7 : w6.cell? ⟨g6, 7, none⟩ = some (.int .i64 nz) := hP.out.b6.cell 7
        go_wp2_with fail
        refine (cT1.out _).mono ?_
        rintro en w7 ⟨rfl, hb⟩
        try dsimp only
        replace hP := Lib.hid (hP.out.below hb)
        clear hb s7
        have b40 : w7.cell? ⟨g4, 0, none⟩ = some (.slice A4 m c4_) := hP.out.b4.cell 0
        obtain rfl : m = 0 := hm0.out.2 hne
        obtain rfl : LC = L := hLC.out
        go_wp2_with fail
        exact hQ.out x vx6 _ _ _ _ _ _ _ _ _ _ _ _ _ _ _ _ _ _ _ _ _ _ _ _ _ _ _ _ _ _ _ _ _ _ _ _ _ _ _ _ _ _ _ _ _ _ _ _ _ _ _ _ _ _ _ _ _ _ _ _ _ _ _ _ _ _ _ _ _ _ _ _ _ _ _ _ _ _ _ _ _ _ _ _ _ _ _ _ _ _ _ _ _ _ _ _ _ _ _ _ _ _ _ _ _ _ _ _ _ _ _ _ _ _ _ _ _ _ _ _ _ _ _ _ _ _ _ _ _ _ _ _ _ _ _ _ _ _ _ _ _ _ _ _ _ _ _ _ _ _ _ _ _ _ _ _ _ _ _ _ _ _ _ _ _ _ _ _ _ _ _ _ _ _ _ _ _ _ _ _ _ _ _ _ _ _ _ _ _ _ _ _ _ _ _ _ _ _ _ _ _ _ _ _ _ _ _ _ _ _ _ _ _ _ _ _ _ _ _ _ _ _ _ _ _ _ _ _ _ _ _ _ _ _ _ _ _ _ _ _ _ _ _ _ _ _ _ _ _ _ _ _ _ _ _ _ _ _ _ _ _ _ _ _ _ _ hP.out.head
    case neg =>
      cases hrb : roundB nz
      case false =>
        obtain ⟨LC, hLC⟩ : ∃ K, K = L := ⟨_, rfl⟩
        have hov : closeR L nz = (LC, 2) := by rw [hLC, closeR, closeS, if_neg hne, hrb]; rfl
        replace hLC := Lib.hid hLC
        have hC1 : Hid (Calls Tryz.prog 39 #[.pointer (some ⟨x, 0, none⟩), .int .i64 nz] w5 (fun e w' => e = .returned (.int .i64 2) ∧ ∃ v', LamS w' B x v' LC ∧ But (fun k => k = x) w5 w')) := Lib.hid (by have h := hC.out; rw [hov] at h; exact h)
        have cT1 : Hid (∀ W, Calls Tryz.prog 21 #[.int .i64 nz] W (RetVal (.int .i64 2) W)) := Lib.hid (fun W => by have h := cT.out W; rw [hrb] at h; exact h)
        clear hC cT
        go_wp2_with fail
        refine hC1.out.mono ?_
        rintro en w6 ⟨rfl, vx6, hl6, hbt⟩
        try dsimp only
        have hP6 := Lib.hid (hP.out.butL (hbt.wide (r' := fun k => k = x ∨ vx.ownBlock = some k) (fun k _ h => .inl h)) hl6)
        clear hbt hC1 s7 b40 hP hl6
        have hP := hP6
        clear hP6
        have s7 : w6.cell? ⟨g6, 7, none⟩ = some (.int .i64 nz) := hP.out.b6.cell 7
        go_wp2_with fail
        refine (cT1.out _).mono ?_
        rintro en w7 ⟨rfl, hb⟩
        try dsimp only
        replace hP := Lib.hid (hP.out.below hb)
        clear hb s7
        have b40 : w7.cell? ⟨g4, 0, none⟩ = some (.slice A4 m c4_) := hP.out.b4.cell 0
        obtain rfl : LC = L := hLC.out
        have hmp : (0 : Int) < (m : Int) := by have h := hm0.out; have : m ≠ 0 := fun e => hne (h.1 e); omega
        have s7 : w7.cell? ⟨g6, 7, none⟩ = some (.int .i64 nz) := hP.out.b6.cell 7
        go_wp2_with fail
        refine (cT1.out _).mono ?_
        rintro en w8 ⟨rfl, hb⟩
        try dsimp only
        replace hP := Lib.hid (hP.out.below hb)
        clear hb s7 b40
        go_wp2_with fail
        exact hX.out x vx6 _ _ _ _ _ _ _ _ _ _ _ _ _ _ _ _ _ _ _ _ _ _ _ _ _ _ _ _ _ _ _ _ _ _ _ _ _ _ _ _ _ _ _ _ _ _ _ _ _ _ _ _ _ _ _ _ _ _ _ _ _ _ _ _ _ _ _ _ _ _ _ _ _ _ _ _ _ _ _ _ _ _ _ _ _ _ _ _ _ _ _ _ _ _ _ _ _ _ _ _ _ _ _ _ _ _ _ _ _ _ _ _ _ _ _ _ _ _ _ _ _ _ _ _ _ _ _ _ _ _ _ _ _ _ _ _ _ _ _ _ _ _ _ _ _ _ _ _ _ _ _ _ _ _ _ _ _ _ _ _ _ _ _ _ _ _ _ _ _ _ _ _ _ _ _ _ _ _ _ _ _ _ _ _ _ _ _ _ _ _ _ _ _ _ _ _ _ _ _ _ _ _ _ _ _ _ _ _ _ _ _ _ _ _ _ _ _ _ _ _ _ _ _ _ _ _ _ _ _ _ _ _ _ _ _ _ _ _ _ _ _ _ _ _ _ _ _ _ _ _ _ _ _ _ _ _ _ _ _ _ _ _ _ _ _ _ hP.out.head
      case true =>
        obtain ⟨LC, hLC⟩ : ∃ K, K = (rcloseR L nz.toNat).1 := ⟨_, rfl⟩
        obtain ⟨ec, hec⟩ : ∃ K, K = (rcloseR L nz.toNat).2 := ⟨_, rfl⟩
        have hrc : rcloseR L nz.toNat = (LC, ec) := by rw [hLC, hec]
        have hov : closeR L nz = (LC, ec) := by
          rw [← hrc, closeR, rcloseR, closeS, if_neg hne, hrb, if_pos rfl]
        replace hLC := Lib.hid hLC
        replace hec := Lib.hid hec
        have hC1 : Hid (Calls Tryz.prog 39 #[.pointer (some ⟨x, 0, none⟩), .int .i64 nz] w5 (fun e w' => e = .returned (.int .i64 ec) ∧ ∃ v', LamS w' B x v' LC ∧ But (fun k => k = x) w5 w')) := Lib.hid (by have h := hC.out; rw [hov] at h; exact h)
        have cT1 : Hid (∀ W, Calls Tryz.prog 21 #[.int .i64 nz] W (RetVal (.int .i64 0) W)) := Lib.hid (fun W => by have h := cT.out W; rw [hrb] at h; exact h)
        clear hC cT
        go_wp2_with fail
        refine hC1.out.mono ?_
        rintro en w6 ⟨rfl, vx6, hl6, hbt⟩
        try dsimp only
        have hP6 := Lib.hid (hP.out.butL (hbt.wide (r' := fun k => k = x ∨ vx.ownBlock = some k) (fun k _ h => .inl h)) hl6)
        clear hbt hC1 s7 b40 hP hl6
        have hP := hP6
        clear hP6
        have s7 : w6.cell? ⟨g6, 7, none⟩ = some (.int .i64 nz) := hP.out.b6.cell 7
        go_wp2_with fail
        refine (cT1.out _).mono ?_
        rintro en w7 ⟨rfl, hb⟩
        try dsimp only
        replace hP := Lib.hid (hP.out.below hb)
        clear hb s7
        have b40 : w7.cell? ⟨g4, 0, none⟩ = some (.slice A4 m c4_) := hP.out.b4.cell 0
        have hmp : (0 : Int) < (m : Int) := by have h := hm0.out; have : m ≠ 0 := fun e => hne (h.1 e); omega
        have s7 : w7.cell? ⟨g6, 7, none⟩ = some (.int .i64 nz) := hP.out.b6.cell 7
        have cR1 : Hid (Calls Tryz.prog 51 #[.slice A4 m c4_, .int .i64 nz] w7 (fun e w' => ∃ v', e = .returned (.tuple #[v', .int .i64 ec]) ∧ RRow w' B v' LC ∧ Below w7.heap.size w7 w')) := Lib.hid (by
          have h := cR.out nz.toNat (by have := roundB_iff.1 hrb; omega) w7 hP.out.row (Nat.le_trans hP.out.lo.2.2 hP.out.bel.size)
          rw [hrc, show ((nz.toNat : Nat) : Int) = nz by have := roundB_iff.1 hrb; omega] at h
          exact h)
        clear cR hrc
        have hez : (ec != ec) = false := by simp
        go_wp2_with fail
        refine cR1.out.mono ?_
        rintro en w8 ⟨v8, rfl, hr8, hb⟩
        try dsimp only
        have hP8 := Lib.hid (hP.out.below hb)
        obtain ⟨m8, hm8⟩ : ∃ q, q = LC.length := ⟨_, rfl⟩
        obtain ⟨A8, c8_, hv8, -⟩ := RRow.form hr8
        rw [← hm8] at hv8
        subst hv8
        replace hm8 := Lib.hid hm8
        have hr9 := Lib.hid hr8
        clear hb cR1 b40 s7 hP hr8
        have b40 : w8.cell? ⟨g4, 0, none⟩ = some (.slice A4 m c4_) := hP8.out.b4.cell 0
        have b4f := hP8.out.b4.frozen 0
        have hP9 := Lib.hid (hP8.out.store hr9.out)
        clear hr9
        go_upto_region 56 with fail
        generalize hW : w8.setCell ⟨g4, 0, none⟩ (.slice A8 m8 c8_) = w9 at hP9 ⊢
        clear hW b40 b4f hP8
        go_wp2_with fail
        exact hQ.out x vx6 _ _ _ _ _ _ _ _ _ _ _ _ _ _ _ _ _ _ _ _ _ _ _ _ _ _ _ _ _ _ _ _ _ _ _ _ _ _ _ _ _ _ _ _ _ _ _ _ _ _ _ _ _ _ _ _ _ _ _ _ _ _ _ _ _ _ _ _ _ _ _ _ _ _ _ _ _ _ _ _ _ _ _ _ _ _ _ _ _ _ _ _ _ _ _ _ _ _ _ _ _ _ _ _ _ _ _ _ _ _ _ _ _ _ _ _ _ _ _ _ _ _ _ _ _ _ _ _ _ _ _ _ _ _ _ _ _ _ _ _ _ _ _ _ _ _ _ _ _ _ _ _ _ _ _ _ _ _ _ _ _ _ _ _ _ _ _ _ _ _ _ _ _ _ _ _ _ _ _ _ _ _ _ _ _ _ _ _ _ _ _ _ _ _ _ _ _ _ _ _ _ _ _ _ _ _ _ _ _ _ _ _ _ _ _ _ _ _ _ _ _ _ _ _ _ _ _ _ _ _ _ _ _ _ _ _ _ _ _ _ _ _ _ _ _ _ _ _ _ _ _ _ _ _ _ _ _ _ _ _ _ _ _ _ _ _ hP9.out.head
end Go.Proofs.YtoaggmegmgdgbaaGreat
