import Derived.Test.YtoaggmegmgdgbaaGreatPlayH
import Derived.Deep.CutBlock
import Derived.Deep.CutRange
namespace Go.Proofs.YtoaggmegmgdgbaaGreat
open Go.RowKit Go.Sort
attribute [local go_sem] Oper.semAt_some
set_option maxRecDepth 100000 in
set_option maxHeartbeats 16000000 in
theorem plays_each (c1 c9 c10 c11 c12 c13 c14 c15 c16 c17 c18 c19 c20 c21 c22 c23 c24 c25 c26 c27 c28 c29 c30 c31 c32 c33 c34 c35 c36 c37 c38 c39 c40 c41 c42 c43 c44 c45 c46 c47 c48 c50 c51 c52 c53 c54 c55 c56 c57 c58 c59 c60 c61 c62 c63 c64 c65 c66 c67 c68 c69 c70 c71 c72 c73 c74 c75 c76 c77 c78 c79 c80 c81 c82 c83 c84 c85 c86 c87 c88 c89 c90 c91 c92 c93 c94 c95 c96 c97 c98 c99 c100 c101 c102 c103 c104 c105 c106 c107 c108 c109 c110 c111 c112 c113 c114 c115 c116 c117 c118 c119 c120 c121 c122 c123 c124 c125 c126 c127 c128 c129 c130 c131 c132 c133 c134 c135 c136 c137 c138 c139 c140 c141 c142 c143 c144 c145 c146 c147 c148 c149 c150 c151 c152 c153 c154 c155 c156 c157 c158 c159 c160 c161 c162 c163 c164 c165 c166 c167 c168 c169 c170 c171 c172 c173 c174 c175 c176 c177 c178 c179 c180 c181 c182 c183 c184 c185 c186 c187 c188 c189 c190 c191 c192 c193 c194 c195 c196 c197 c198 c199 c200 c201 c202 c203 c204 c205 c206 c207 c208 c209 c210 c211 c212 c213 c214 c215 c216 c217 c218 c219 c220 c221 c222 c223 c224 c225 c226 c227 c228 c229 c230 c231 c232 c233 c234 c235 c236 c237 c238 c239 c240 c241 c242 c243 c244 c245 c246 c247 c248 c249 c250 c251 c252 c253 c254 c255 c256 c257 c258 c259 c260 c261 c262 c263 c264 c265 c266 c267 c268 c269 c270 c271 c272 c273 c274 c275 c276 c277 c278 c279 c280 c281 c282 c283 c284 c285 c286 c287 c288 c289 c290 c291 c292 c293 c294 c295 c296 c297 c298 c299 c300 c301 : Value) (gs so n sc g2 g4 g6 g7 x i B : Nat) (vx wv : Value) (L : List Lf) (ds : List Deferred) (w w5 : World) (nz c q0 q1 q2 q3 : Int) (n1 : Bool) (a1 d1 : ByteArray) (n2 : Bool) (a2 d2 : ByteArray) (Q : Exit → Act → World → Prop)
    (hz1 : a1.size ≤ 9223372036854775807) (hz2 : d1.size ≤ 9223372036854775807) (hz3 : a2.size ≤ 9223372036854775807) (hz4 : d2.size ≤ 9223372036854775807)
    (hq : Hid (c = 0 → ∃ l : Lf, Lfp l ∧ n1 = false ∧ a1 = natS l.1.1 ∧ d1 = natS l.1.2 ∧ n2 = false ∧ a2 = natS l.2.1 ∧ d2 = natS l.2.2 ∧ #[Value.int .u64 q0, .int .u64 q1, .int .u64 q2, .int .u64 q3] = #[.int .u64 (l.1.1 : Int), .int .u64 (l.1.2 : Int), .int .u64 (l.2.1 : Int), .int .u64 (l.2.2 : Int)]))
    (hcE : Hid (c = chkLf n1 a1 d1 n2 a2 d2)) (hP : Hid (PlS B g2 g4 g6 g7 x vx wv L L #[.int .i64 7, .bool n1, .string a1, .string d1, .bool n2, .string a2, .string d2, .int .i64 nz] #[.int .u64 q0, .int .u64 q1, .int .u64 q2, .int .u64 q3] ds w w5))
    (hQ : ∀ (y : Nat) (vy wy : Value) (L' : List Lf) (u8 u9 u10 u11 u12 u13 u14 u15 u16 u17 u18 u19 u20 u21 u22 u23 u24 u50 u51 u52 u53 u54 u55 u56 u57 u58 u59 u60 u61 u62 u63 u64 u65 u66 u67 u68 u69 u70 u71 u72 u73 u74 u75 u76 u77 u78 u79 u80 u81 u82 u83 u84 u85 u86 u87 u88 u89 u90 u91 u92 u93 u94 u95 u96 u97 u98 u99 u100 u101 u102 u103 u104 u105 u106 u107 u108 u109 u110 u111 u112 u113 u114 u115 u116 u117 u118 u119 u120 u121 u122 u123 u124 u125 u126 u127 u128 u129 u130 u131 u132 u133 u134 u135 u136 u137 u138 u139 u140 u141 u142 u143 u144 u145 u146 u147 u148 u149 u150 u151 u152 u153 u154 u155 u156 u157 u158 u159 u160 u161 u162 u163 u164 u165 u166 u167 u168 u169 u170 u171 u172 u173 u174 u175 u176 u177 u178 u179 u180 u181 u182 u183 u184 u185 u186 u187 u188 u189 u190 u191 u192 u193 u194 u195 u196 u197 u198 u199 u200 u201 u202 u203 u204 u205 u206 u207 u208 u209 u210 u211 u212 u213 u214 u215 u216 u217 u218 u219 u220 u221 u222 u223 u224 u225 u226 u227 u228 u229 u230 u231 u232 u233 u234 u235 u236 u237 u238 u239 u240 u241 u242 u243 u244 u245 u246 u247 u248 u249 u250 u251 u252 u253 u254 u255 u256 u257 u258 u259 u260 u261 u262 u263 u264 u265 u266 u267 u268 u269 u270 u271 u272 u273 u274 u275 u276 u277 u278 u279 u280 u281 u282 u283 u284 u285 u286 u287 u288 u289 u290 u291 u292 u293 u294 : Value) (es : List Deferred) (W : World), PlH B g2 g4 y vy wy L' es w W → Q .normal { tmps := #[.slice (some ⟨gs, so, none⟩) n sc, c1, .pointer (some ⟨g2, 0, none⟩), .pointer (some ⟨y, 0, none⟩), .pointer (some ⟨g4, 0, none⟩), .int .i64 (i : Int), .pointer (some ⟨g6, 0, none⟩), .pointer (some ⟨g7, 0, none⟩), u8, u9, u10, u11, u12, u13, u14, u15, u16, u17, u18, u19, u20, u21, u22, u23, u24, c25, c26, c27, c28, c29, c30, c31, c32, c33, c34, c35, c36, c37, c38, c39, c40, c41, c42, c43, c44, c45, c46, c47, c48, .int .i64 7, u50, u51, u52, u53, u54, u55, u56, u57, u58, u59, u60, u61, u62, u63, u64, u65, u66, u67, u68, u69, u70, u71, u72, u73, u74, u75, u76, u77, u78, u79, u80, u81, u82, u83, u84, u85, u86, u87, u88, u89, u90, u91, u92, u93, u94, u95, u96, u97, u98, u99, u100, u101, u102, u103, u104, u105, u106, u107, u108, u109, u110, u111, u112, u113, u114, u115, u116, u117, u118, u119, u120, u121, u122, u123, u124, u125, u126, u127, u128, u129, u130, u131, u132, u133, u134, u135, u136, u137, u138, u139, u140, u141, u142, u143, u144, u145, u146, u147, u148, u149, u150, u151, u152, u153, u154, u155, u156, u157, u158, u159, u160, u161, u162, u163, u164, u165, u166, u167, u168, u169, u170, u171, u172, u173, u174, u175, u176, u177, u178, u179, u180, u181, u182, u183, u184, u185, u186, u187, u188, u189, u190, u191, u192, u193, u194, u195, u196, u197, u198, u199, u200, u201, u202, u203, u204, u205, u206, u207, u208, u209, u210, u211, u212, u213, u214, u215, u216, u217, u218, u219, u220, u221, u222, u223, u224, u225, u226, u227, u228, u229, u230, u231, u232, u233, u234, u235, u236, u237, u238, u239, u240, u241, u242, u243, u244, u245, u246, u247, u248, u249, u250, u251, u252, u253, u254, u255, u256, u257, u258, u259, u260, u261, u262, u263, u264, u265, u266, u267, u268, u269, u270, u271, u272, u273, u274, u275, u276, u277, u278, u279, u280, u281, u282, u283, u284, u285, u286, u287, u288, u289, u290, u291, u292, u293, u294, c295, c296, c297, c298, c299, c300, c301], defers := es } W) :
    Code.wp Tryz.prog swCode Q { tmps := #[.slice (some ⟨gs, so, none⟩) n sc, c1, .pointer (some ⟨g2, 0, none⟩), .pointer (some ⟨x, 0, none⟩), .pointer (some ⟨g4, 0, none⟩), .int .i64 (i : Int), .pointer (some ⟨g6, 0, none⟩), .pointer (some ⟨g7, 0, none⟩), .int .i64 c, c9, c10, c11, c12, c13, c14, c15, c16, c17, c18, c19, c20, c21, c22, c23, c24, c25, c26, c27, c28, c29, c30, c31, c32, c33, c34, c35, c36, c37, c38, c39, c40, c41, c42, c43, c44, c45, c46, c47, c48, .int .i64 7, c50, c51, c52, c53, c54, c55, c56, c57, c58, c59, c60, c61, c62, c63, c64, c65, c66, c67, c68, c69, c70, c71, c72, c73, c74, c75, c76, c77, c78, c79, c80, c81, c82, c83, c84, c85, c86, c87, c88, c89, c90, c91, c92, c93, c94, c95, c96, c97, c98, c99, c100, c101, c102, c103, c104, c105, c106, c107, c108, c109, c110, c111, c112, c113, c114, c115, c116, c117, c118, c119, c120, c121, c122, c123, c124, c125, c126, c127, c128, c129, c130, c131, c132, c133, c134, c135, c136, c137, c138, c139, c140, c141, c142, c143, c144, c145, c146, c147, c148, c149, c150, c151, c152, c153, c154, c155, c156, c157, c158, c159, c160, c161, c162, c163, c164, c165, c166, c167, c168, c169, c170, c171, c172, c173, c174, c175, c176, c177, c178, c179, c180, c181, c182, c183, c184, c185, c186, c187, c188, c189, c190, c191, c192, c193, c194, c195, c196, c197, c198, c199, c200, c201, c202, c203, c204, c205, c206, c207, c208, c209, c210, c211, c212, c213, c214, c215, c216, c217, c218, c219, c220, c221, c222, c223, c224, c225, c226, c227, c228, c229, c230, c231, c232, c233, c234, c235, c236, c237, c238, c239, c240, c241, c242, c243, c244, c245, c246, c247, c248, c249, c250, c251, c252, c253, c254, c255, c256, c257, c258, c259, c260, c261, c262, c263, c264, c265, c266, c267, c268, c269, c270, c271, c272, c273, c274, c275, c276, c277, c278, c279, c280, c281, c282, c283, c284, c285, c286, c287, c288, c289, c290, c291, c292, c293, c294, c295, c296, c297, c298, c299, c300, c301], defers := ds } w5 := by
  conv => arg 2; whnf
  have hQ := Lib.hid hQ
  have hOk := Lib.hid hP.out.lam.ok
  have hTo : Hid (∀ l, l ∈ L → ∀ W, Calls Tryz.prog 23 #[.agg #[.int .u64 (l.1.1 : Int), .int .u64 (l.1.2 : Int), .int .u64 (l.2.1 : Int), .int .u64 (l.2.2 : Int)]] W (RetVal (.agg #[.bool false, .string (natS l.1.1), .string (natS l.1.2), .bool false, .string (natS l.2.1), .string (natS l.2.2)]) W)) := Lib.hid (fun l hl W => rlTold_any l W (hOk.out.ang l hl))
  obtain ⟨m0, hm0⟩ : ∃ m, m = L.length := ⟨_, rfl⟩
  have hlen : m0 ≤ 4096 := by rw [hm0]; exact hP.out.lam.len
  obtain ⟨A4, c4_, hwv, hA4⟩ := RRow.form hP.out.row
  rw [← hm0] at hwv hA4
  subst hwv
  replace hm0 := Lib.hid hm0
  clear hq
  go_upto_region 66 with fail
  have kk := Lib.hid (Blk.new w5 3 #[.int .i64 0])
  have hbU := Lib.hid ((Below.refl w5.heap.size w5).alloc (Nat.le_refl _) (.cells #[.int .i64 0] 3))
  have hgk : w5.heap.size ≤ w5.heap.size := Nat.le_refl _
  generalize hW : w5.alloc (.cells #[.int .i64 0] 3) = w6 at hbU kk ⊢
  obtain ⟨gk, hgkE⟩ : ∃ g, g = w5.heap.size := ⟨_, rfl⟩
  rw [← hgkE] at kk ⊢
  replace hgkE := Lib.hid hgkE
  clear hW hgk
  go_wp2_with fail
  refine (lLeavesP_any (.pointer (some ⟨x, 0, none⟩)) rfl rfl _).mono ?_
  rintro en w7 ⟨rfl, rfl⟩
  try dsimp only
  have hI := Lib.hid (Blk.new w6 63 #[.pointer (some ⟨x, 0, none⟩)])
  replace hbU := Lib.hid (hbU.out.alloc hbU.out.size (.cells #[.pointer (some ⟨x, 0, none⟩)] 63))
  replace kk := Lib.hid (kk.out.alloc (.cells #[.pointer (some ⟨x, 0, none⟩)] 63))
  generalize hW : w6.alloc (.cells #[.pointer (some ⟨x, 0, none⟩)] 63) = U at hbU kk hI ⊢
  generalize hgg : w6.heap.size = gi at hI ⊢
  clear hW hgg
  go_wp2_with fail
  have hkU := kk.out.lt
  have h5U : w5.heap.size ≤ U.heap.size := hbU.out.size
  have hW5 : Hid (∀ W, U.grownBy W (some gk) → Below w5.heap.size w5 W) := Lib.hid (fun W hg => hbU.out.trans ⟨hg.os, hg.tape, hg.output, hg.size, fun k hk => hg.block k (by omega) (fun e => by injection e with e; have := hgkE.out; omega)⟩)
  refine (wpIn_wide (n := 0)).1 ?_
  refine wpIn_iterB (gf := 93) (lb := #[.pointer (some ⟨gi, 0, none⟩)]) rfl (enters_of Tryz.func93 (by kernel_rfl) rfl) (lLeaves_iter gi B x vx L U hI.out (hP.out.below hbU.out).lam) (Below.refl _ _) (fun k hk => hk.elim) (fun _ => rfl)
    (fun _ pre W => U.grownBy W (some gk) ∧ Blk W gk 3 #[.int .i64 (pre.length : Int)]) (fun _ q pre W => q = .exit 3 ∧ U.grownBy W (some gk) ∧ Blk W gk 3 #[.int .i64 (pre.length : Int)] ∧ (pre.length : Int) = nz)
    (fun m s A B h ho => ⟨gb_out h.1 ho, blk_out h.2 hkU ho⟩) (fun m q s A B h ho => ⟨h.1, gb_out h.2.1 ho, blk_out h.2.2.1 hkU ho, h.2.2.2⟩) (fun _ => ⟨gb_refl _ _, kk.out⟩) ?rd ?dn ?st
  case dn =>
    rintro m W ⟨hg, hk⟩ hMk
    have hb := Lib.hid (hW5.out W hg)
    have hH := Lib.hid (PlS.eachHead hP.out hb.out hMk h5U)
    have k0 : W.cell? ⟨gk, 0, none⟩ = some (.int .i64 (m0 : Int)) := by rw [hm0.out]; exact hk.cell 0
    have b40 : W.cell? ⟨g4, 0, none⟩ = some (.slice A4 m0 c4_) := (hP.out.below hb.out).b4.cell 0
    clear hb hg hk hMk hP hI kk
    go_wp2_with fail
    exact hQ.out x vx _ L _ _ _ _ _ _ _ _ _ _ _ _ _ _ _ _ _ _ _ _ _ _ _ _ _ _ _ _ _ _ _ _ _ _ _ _ _ _ _ _ _ _ _ _ _ _ _ _ _ _ _ _ _ _ _ _ _ _ _ _ _ _ _ _ _ _ _ _ _ _ _ _ _ _ _ _ _ _ _ _ _ _ _ _ _ _ _ _ _ _ _ _ _ _ _ _ _ _ _ _ _ _ _ _ _ _ _ _ _ _ _ _ _ _ _ _ _ _ _ _ _ _ _ _ _ _ _ _ _ _ _ _ _ _ _ _ _ _ _ _ _ _ _ _ _ _ _ _ _ _ _ _ _ _ _ _ _ _ _ _ _ _ _ _ _ _ _ _ _ _ _ _ _ _ _ _ _ _ _ _ _ _ _ _ _ _ _ _ _ _ _ _ _ _ _ _ _ _ _ _ _ _ _ _ _ _ _ _ _ _ _ _ _ _ _ _ _ _ _ _ _ _ _ _ _ _ _ _ _ _ _ _ _ _ _ _ _ _ _ _ _ _ _ _ _ _ _ _ _ _ _ _ _ _ _ _ _ _ _ _ _ _ _ _ hH.out
  case st =>
    rintro m q pre W hpre ⟨rfl, hg, hk, hnz⟩ hMk
    have hb := Lib.hid (hW5.out W hg)
    have hH := Lib.hid (PlS.eachHead hP.out hb.out hMk h5U)
    obtain ⟨j, hj⟩ : ∃ j, j = pre.length := ⟨_, rfl⟩
    rw [← hj] at hk hnz
    have k0 : W.cell? ⟨gk, 0, none⟩ = some (.int .i64 (j : Int)) := hk.cell 0
    have b40 : W.cell? ⟨g4, 0, none⟩ = some (.slice A4 m0 c4_) := (hP.out.below hb.out).b4.cell 0
    have s7 : W.cell? ⟨g6, 7, none⟩ = some (.int .i64 (j : Int)) := by rw [hnz]; exact (hP.out.below hb.out).b6.cell 7
    clear hb hg hk hMk hP hI kk hj hpre
    refine wpIn_wide.2 ?_
    by_cases hjm : j = m0
    · subst hjm
      go_wp2_with fail
      exact hQ.out x vx _ L _ _ _ _ _ _ _ _ _ _ _ _ _ _ _ _ _ _ _ _ _ _ _ _ _ _ _ _ _ _ _ _ _ _ _ _ _ _ _ _ _ _ _ _ _ _ _ _ _ _ _ _ _ _ _ _ _ _ _ _ _ _ _ _ _ _ _ _ _ _ _ _ _ _ _ _ _ _ _ _ _ _ _ _ _ _ _ _ _ _ _ _ _ _ _ _ _ _ _ _ _ _ _ _ _ _ _ _ _ _ _ _ _ _ _ _ _ _ _ _ _ _ _ _ _ _ _ _ _ _ _ _ _ _ _ _ _ _ _ _ _ _ _ _ _ _ _ _ _ _ _ _ _ _ _ _ _ _ _ _ _ _ _ _ _ _ _ _ _ _ _ _ _ _ _ _ _ _ _ _ _ _ _ _ _ _ _ _ _ _ _ _ _ _ _ _ _ _ _ _ _ _ _ _ _ _ _ _ _ _ _ _ _ _ _ _ _ _ _ _ _ _ _ _ _ _ _ _ _ _ _ _ _ _ _ _ _ _ _ _ _ _ _ _ _ _ _ _ _ _ _ _ _ _ _ _ _ _ _ _ _ _ _ _ hH.out
    · have hjz : ¬ (j : Int) = (m0 : Int) := by omega
      have hjb : ((j : Int) != (m0 : Int)) = true := by simp; omega
      go_wp2_with fail
      exact hQ.out x vx _ L _ _ _ _ _ _ _ _ _ _ _ _ _ _ _ _ _ _ _ _ _ _ _ _ _ _ _ _ _ _ _ _ _ _ _ _ _ _ _ _ _ _ _ _ _ _ _ _ _ _ _ _ _ _ _ _ _ _ _ _ _ _ _ _ _ _ _ _ _ _ _ _ _ _ _ _ _ _ _ _ _ _ _ _ _ _ _ _ _ _ _ _ _ _ _ _ _ _ _ _ _ _ _ _ _ _ _ _ _ _ _ _ _ _ _ _ _ _ _ _ _ _ _ _ _ _ _ _ _ _ _ _ _ _ _ _ _ _ _ _ _ _ _ _ _ _ _ _ _ _ _ _ _ _ _ _ _ _ _ _ _ _ _ _ _ _ _ _ _ _ _ _ _ _ _ _ _ _ _ _ _ _ _ _ _ _ _ _ _ _ _ _ _ _ _ _ _ _ _ _ _ _ _ _ _ _ _ _ _ _ _ _ _ _ _ _ _ _ _ _ _ _ _ _ _ _ _ _ _ _ _ _ _ _ _ _ _ _ _ _ _ _ _ _ _ _ _ _ _ _ _ _ _ _ _ _ _ _ _ _ _ _ _ _ hH.out
  case rd =>
    rintro m l pre p W ⟨hg, hk⟩ hsz hpre Kk hKk
    obtain ⟨j, hj⟩ : ∃ j, j = pre.length := ⟨_, rfl⟩
    have hjl : j < L.length := by have := hpre.length_le; rw [List.length_append, List.length_singleton] at this; omega
    have hpj : L[j]! = p := by
      rw [getElem!_pos L j hjl, ← hpre.getElem (i := j) (by rw [List.length_append, List.length_singleton]; omega), List.getElem_append_right (by omega)]
      simp [hj]
    have hpm : p ∈ L := by rw [← hpj]; exact getBang_mem hjl
    have cTo := Lib.hid (hTo.out p hpm)
    have hbW := Lib.hid (hW5.out W hg)
    rw [← hj] at hk
    have hjm : j < m0 := by rw [hm0.out]; exact hjl
    obtain ⟨gv, hgv⟩ := hA4 (by omega)
    subst hgv
    have hCr : Hid (∀ X, Below w5.heap.size w5 X → (∀ (q : Nat) (u : Value), (rlE p)[q]? = some u → X.cell? ⟨gv, j * 4 + q, none⟩ = some u) ∧ X.cell? ⟨g4, 0, none⟩ = some (.slice (some ⟨gv, 0, none⟩) m0 c4_) ∧ X.cell? ⟨g6, 7, none⟩ = some (.int .i64 nz)) := Lib.hid (fun X hX => by
      have h := hP.out.below hX
      refine ⟨?_, h.b4.cell 0, h.b6.cell 7⟩
      have h2 := RRow.cell (by have h3 := h.row; exact h3) hjl
      rw [hpj] at h2
      exact h2)
    replace hg := Lib.hid hg
    replace hk := Lib.hid hk
    replace hj := Lib.hid hj
    replace hKk := Lib.hid hKk
    clear hpre hpj hpm hjl hI kk
    simp only [leafV, leafE]
    gi_wp2_with fail
    refine hKk.out _ _ ((KeepB.refl _ W).alloc (fun k hk => by rcases hk with h | h; exact h.elim; omega) _) ?_
    intro o
    have hne1 : gk ≠ U.heap.size + 1 := by omega
    have kbX := blk_put (Blk.new W 38 #[.bool false, .string (natS p.1.1), .string (natS p.1.2), .bool false, .string (natS p.2.1), .string (natS p.2.2)]) (show W.heap.size ≠ U.heap.size + 1 by omega) o
    have kkX := blk_put (hk.out.alloc (.cells #[.bool false, .string (natS p.1.1), .string (natS p.1.2), .bool false, .string (natS p.2.1), .string (natS p.2.2)] 38)) hne1 o
    have hGX : U.grownBy ((W.alloc (.cells #[.bool false, .string (natS p.1.1), .string (natS p.1.2), .bool false, .string (natS p.2.1), .string (natS p.2.2)] 38)).putObj (U.heap.size + 1) o) (some gk) := gb_out (hi := U.heap.size + 2) hg.out (((OutB.refl _ _ W).alloc _).put (by omega) (by omega) o)
    have hXs : ((W.alloc (.cells #[.bool false, .string (natS p.1.1), .string (natS p.1.2), .bool false, .string (natS p.2.1), .string (natS p.2.2)] 38)).putObj (U.heap.size + 1) o).heap.size = W.heap.size + 1 := by simp
    obtain ⟨gb, hgb⟩ : ∃ g, g = W.heap.size := ⟨_, rfl⟩
    generalize hxx : (W.alloc (.cells #[.bool false, .string (natS p.1.1), .string (natS p.1.2), .bool false, .string (natS p.2.1), .string (natS p.2.2)] 38)).putObj (U.heap.size + 1) o = X at kbX kkX hGX hXs ⊢
    rw [← hgb] at kbX hXs hsz ⊢
    clear hxx hgb hg hk hKk hbW
    have hC := hCr.out X (hW5.out X hGX)
    have hUX : U.heap.size + 2 + m ≤ X.heap.size := by omega
    have v0 : ∀ d os, (grow (redrawn X d) os).cell? ⟨gv, j * 4, none⟩ = some (.int .u64 (p.1.1 : Int)) := cell_regrown (hC.1 0 _ rfl)
    have v1 : ∀ d os, (grow (redrawn X d) os).cell? ⟨gv, j * 4 + 1, none⟩ = some (.int .u64 (p.1.2 : Int)) := cell_regrown (hC.1 1 _ rfl)
    have v2 : ∀ d os, (grow (redrawn X d) os).cell? ⟨gv, j * 4 + 2, none⟩ = some (.int .u64 (p.2.1 : Int)) := cell_regrown (hC.1 2 _ rfl)
    have v3 : ∀ d os, (grow (redrawn X d) os).cell? ⟨gv, j * 4 + 3, none⟩ = some (.int .u64 (p.2.2 : Int)) := cell_regrown (hC.1 3 _ rfl)
    have b0 : ∀ d os, (grow (redrawn X d) os).cell? ⟨gb, 0, none⟩ = some (.bool false) := cell_regrown (Blk.cell kbX 0)
    have b1 : ∀ d os, (grow (redrawn X d) os).cell? ⟨gb, 1, none⟩ = some (.string (natS p.1.1)) := cell_regrown (Blk.cell kbX 1)
    have b2 : ∀ d os, (grow (redrawn X d) os).cell? ⟨gb, 2, none⟩ = some (.string (natS p.1.2)) := cell_regrown (Blk.cell kbX 2)
    have b3 : ∀ d os, (grow (redrawn X d) os).cell? ⟨gb, 3, none⟩ = some (.bool false) := cell_regrown (Blk.cell kbX 3)
    have b4 : ∀ d os, (grow (redrawn X d) os).cell? ⟨gb, 4, none⟩ = some (.string (natS p.2.1)) := cell_regrown (Blk.cell kbX 4)
    have b5 : ∀ d os, (grow (redrawn X d) os).cell? ⟨gb, 5, none⟩ = some (.string (natS p.2.2)) := cell_regrown (Blk.cell kbX 5)
    have k0 : ∀ d os, (grow (redrawn X d) os).cell? ⟨gk, 0, none⟩ = some (.int .i64 (j : Int)) := cell_regrown (Blk.cell kkX 0)
    have w0 : ∀ d os, (grow (redrawn X d) os).cell? ⟨g4, 0, none⟩ = some (.slice (some ⟨gv, 0, none⟩) m0 c4_) := cell_regrown hC.2.1
    have cc : ∀ d os, Calls Tryz.prog 23 #[.agg #[.int .u64 (p.1.1 : Int), .int .u64 (p.1.2 : Int), .int .u64 (p.2.1 : Int), .int .u64 (p.2.2 : Int)]] (grow (redrawn X d) os) fun e w'' => e = .returned (.agg #[.bool false, .string (natS p.1.1), .string (natS p.1.2), .bool false, .string (natS p.2.1), .string (natS p.2.2)]) ∧ ∃ p : Regrown, w'' = grow (redrawn X p.d) p.os :=
      fun d os => Calls.regrown_of (cTo.out _)
    replace kkX := Lib.hid kkX
    replace hGX := Lib.hid hGX
    clear kbX hC
    have hjKI : (j : Int) < (m0 : Int) := by omega
    have hj0I : (0 : Int) ≤ (j : Int) := by omega
    have hXlt : gb < X.heap.size := by omega
    gi_wp2_with fail
    refine wpIn_region_quiet_round (by kernel_rfl) (by kernel_rfl) (by kernel_rfl) ?_
    iterate 10 (quiet_step (fail))
    quiet_step (exact cc _ _)
    iterate 2 (quiet_step (fail))
    refine wpQuiet_nil ?_
    intro Y hw'
    have hb : Below X.heap.size X Y := by
      obtain ⟨p, rfl⟩ := hw'
      exact below_regrown X p.d p.os
    clear hw' cc v0 v1 v2 v3 b0 b1 b2 b3 b4 b5 k0 w0
    have hlen2 : (pre ++ [p]).length = j + 1 := by rw [List.length_append, ← hj.out]; rfl
    have kkY := Blk.below kkX.out hb
    have hGY : U.grownBy Y (some gk) := gb_trBelow hGX.out hb
    have hGZ : U.grownBy (Y.setCell ⟨gk, 0, none⟩ (.int .i64 ((j : Int) + 1))) (some gk) := gb_setY hGY 0 _
    have kkZ : Blk (Y.setCell ⟨gk, 0, none⟩ (.int .i64 ((j : Int) + 1))) gk 3 #[.int .i64 (((pre ++ [p]).length : Nat) : Int)] := by
      rw [hlen2]
      push_cast
      exact kkY.set_ 0 _
    have hKp : KeepB (fun k => False ∨ U.heap.size ≤ k ∧ k < U.heap.size + 2 + m) X (Y.setCell ⟨gk, 0, none⟩ (.int .i64 ((j : Int) + 1))) :=
      ((KeepB.refl _ X).below hb (fun k hk => by rcases hk with h | h; exact h.elim; omega)).setCell (p := ⟨gk, 0, none⟩) (fun hk => by rcases hk with h | h; exact h.elim; simp only at h; omega) _
    have y0 : Y.cell? ⟨gk, 0, none⟩ = some (.int .i64 (j : Int)) := kkY.cell 0
    have y1 := kkY.frozen 0
    have y2 : (Y.setCell ⟨gk, 0, none⟩ (.int .i64 ((j : Int) + 1))).cell? ⟨g6, 7, none⟩ = some (.int .i64 nz) := (hCr.out _ (hW5.out _ hGZ)).2.2
    replace hlen2 := Lib.hid hlen2
    replace kkZ := Lib.hid kkZ
    replace hKp := Lib.hid hKp
    replace hGZ := Lib.hid hGZ
    clear kkY hb hGY
    have hjM : (j : Int) ≤ 4096 := by omega
    by_cases hjn : (j : Int) + 1 = nz
    · have hb2 : ((j : Int) + 1 == nz) = true := by simp; omega
      have hlM : Hid (((pre ++ [p]).length : Int) = nz) := Lib.hid (by rw [hlen2.out]; push_cast; exact hjn)
      clear hjn
      gi_wp2_with fail
      exact ⟨hKp.out, rfl, hGZ.out, kkZ.out, hlM.out⟩
    · have hb2 : ((j : Int) + 1 == nz) = false := by simp; omega
      clear hjn
      gi_wp2_with fail
      exact ⟨hKp.out, hGZ.out, kkZ.out⟩
open Go.RowKit Go.Sort
attribute [local go_sem] Oper.semAt_some
set_option maxRecDepth 100000 in
set_option maxHeartbeats 16000000 in
theorem plays_gaps (c1 c9 c10 c11 c12 c13 c14 c15 c16 c17 c18 c19 c20 c21 c22 c23 c24 c25 c26 c27 c28 c29 c30 c31 c32 c33 c34 c35 c36 c37 c38 c39 c40 c41 c42 c43 c44 c45 c46 c47 c48 c50 c51 c52 c53 c54 c55 c56 c57 c58 c59 c60 c61 c62 c63 c64 c65 c66 c67 c68 c69 c70 c71 c72 c73 c74 c75 c76 c77 c78 c79 c80 c81 c82 c83 c84 c85 c86 c87 c88 c89 c90 c91 c92 c93 c94 c95 c96 c97 c98 c99 c100 c101 c102 c103 c104 c105 c106 c107 c108 c109 c110 c111 c112 c113 c114 c115 c116 c117 c118 c119 c120 c121 c122 c123 c124 c125 c126 c127 c128 c129 c130 c131 c132 c133 c134 c135 c136 c137 c138 c139 c140 c141 c142 c143 c144 c145 c146 c147 c148 c149 c150 c151 c152 c153 c154 c155 c156 c157 c158 c159 c160 c161 c162 c163 c164 c165 c166 c167 c168 c169 c170 c171 c172 c173 c174 c175 c176 c177 c178 c179 c180 c181 c182 c183 c184 c185 c186 c187 c188 c189 c190 c191 c192 c193 c194 c195 c196 c197 c198 c199 c200 c201 c202 c203 c204 c205 c206 c207 c208 c209 c210 c211 c212 c213 c214 c215 c216 c217 c218 c219 c220 c221 c222 c223 c224 c225 c226 c227 c228 c229 c230 c231 c232 c233 c234 c235 c236 c237 c238 c239 c240 c241 c242 c243 c244 c245 c246 c247 c248 c249 c250 c251 c252 c253 c254 c255 c256 c257 c258 c259 c260 c261 c262 c263 c264 c265 c266 c267 c268 c269 c270 c271 c272 c273 c274 c275 c276 c277 c278 c279 c280 c281 c282 c283 c284 c285 c286 c287 c288 c289 c290 c291 c292 c293 c294 c295 c296 c297 c298 c299 c300 c301 : Value) (gs so n sc g2 g4 g6 g7 x i B : Nat) (vx wv : Value) (L : List Lf) (ds : List Deferred) (w w5 : World) (nz c q0 q1 q2 q3 : Int) (n1 : Bool) (a1 d1 : ByteArray) (n2 : Bool) (a2 d2 : ByteArray) (Q : Exit → Act → World → Prop)
    (hz1 : a1.size ≤ 9223372036854775807) (hz2 : d1.size ≤ 9223372036854775807) (hz3 : a2.size ≤ 9223372036854775807) (hz4 : d2.size ≤ 9223372036854775807)
    (hq : Hid (c = 0 → ∃ l : Lf, Lfp l ∧ n1 = false ∧ a1 = natS l.1.1 ∧ d1 = natS l.1.2 ∧ n2 = false ∧ a2 = natS l.2.1 ∧ d2 = natS l.2.2 ∧ #[Value.int .u64 q0, .int .u64 q1, .int .u64 q2, .int .u64 q3] = #[.int .u64 (l.1.1 : Int), .int .u64 (l.1.2 : Int), .int .u64 (l.2.1 : Int), .int .u64 (l.2.2 : Int)]))
    (hcE : Hid (c = chkLf n1 a1 d1 n2 a2 d2)) (hP : Hid (PlS B g2 g4 g6 g7 x vx wv L L #[.int .i64 3, .bool n1, .string a1, .string d1, .bool n2, .string a2, .string d2, .int .i64 nz] #[.int .u64 q0, .int .u64 q1, .int .u64 q2, .int .u64 q3] ds w w5))
    (hQ : ∀ (y : Nat) (vy wy : Value) (L' : List Lf) (u8 u9 u10 u11 u12 u13 u14 u15 u16 u17 u18 u19 u20 u21 u22 u23 u24 u50 u51 u52 u53 u54 u55 u56 u57 u58 u59 u60 u61 u62 u63 u64 u65 u66 u67 u68 u69 u70 u71 u72 u73 u74 u75 u76 u77 u78 u79 u80 u81 u82 u83 u84 u85 u86 u87 u88 u89 u90 u91 u92 u93 u94 u95 u96 u97 u98 u99 u100 u101 u102 u103 u104 u105 u106 u107 u108 u109 u110 u111 u112 u113 u114 u115 u116 u117 u118 u119 u120 u121 u122 u123 u124 u125 u126 u127 u128 u129 u130 u131 u132 u133 u134 u135 u136 u137 u138 u139 u140 u141 u142 u143 u144 u145 u146 u147 u148 u149 u150 u151 u152 u153 u154 u155 u156 u157 u158 u159 u160 u161 u162 u163 u164 u165 u166 u167 u168 u169 u170 u171 u172 u173 u174 u175 u176 u177 u178 u179 u180 u181 u182 u183 u184 u185 u186 u187 u188 u189 u190 u191 u192 u193 u194 u195 u196 u197 u198 u199 u200 u201 u202 u203 u204 u205 u206 u207 u208 u209 u210 u211 u212 u213 u214 u215 u216 u217 u218 u219 u220 u221 u222 u223 u224 u225 u226 u227 u228 u229 u230 u231 u232 u233 u234 u235 u236 u237 u238 u239 u240 u241 u242 u243 u244 u245 u246 u247 u248 u249 u250 u251 u252 u253 u254 u255 u256 u257 u258 u259 u260 u261 u262 u263 u264 u265 u266 u267 u268 u269 u270 u271 u272 u273 u274 u275 u276 u277 u278 u279 u280 u281 u282 u283 u284 u285 u286 u287 u288 u289 u290 u291 u292 u293 u294 : Value) (es : List Deferred) (W : World), PlH B g2 g4 y vy wy L' es w W → Q .normal { tmps := #[.slice (some ⟨gs, so, none⟩) n sc, c1, .pointer (some ⟨g2, 0, none⟩), .pointer (some ⟨y, 0, none⟩), .pointer (some ⟨g4, 0, none⟩), .int .i64 (i : Int), .pointer (some ⟨g6, 0, none⟩), .pointer (some ⟨g7, 0, none⟩), u8, u9, u10, u11, u12, u13, u14, u15, u16, u17, u18, u19, u20, u21, u22, u23, u24, c25, c26, c27, c28, c29, c30, c31, c32, c33, c34, c35, c36, c37, c38, c39, c40, c41, c42, c43, c44, c45, c46, c47, c48, .int .i64 3, u50, u51, u52, u53, u54, u55, u56, u57, u58, u59, u60, u61, u62, u63, u64, u65, u66, u67, u68, u69, u70, u71, u72, u73, u74, u75, u76, u77, u78, u79, u80, u81, u82, u83, u84, u85, u86, u87, u88, u89, u90, u91, u92, u93, u94, u95, u96, u97, u98, u99, u100, u101, u102, u103, u104, u105, u106, u107, u108, u109, u110, u111, u112, u113, u114, u115, u116, u117, u118, u119, u120, u121, u122, u123, u124, u125, u126, u127, u128, u129, u130, u131, u132, u133, u134, u135, u136, u137, u138, u139, u140, u141, u142, u143, u144, u145, u146, u147, u148, u149, u150, u151, u152, u153, u154, u155, u156, u157, u158, u159, u160, u161, u162, u163, u164, u165, u166, u167, u168, u169, u170, u171, u172, u173, u174, u175, u176, u177, u178, u179, u180, u181, u182, u183, u184, u185, u186, u187, u188, u189, u190, u191, u192, u193, u194, u195, u196, u197, u198, u199, u200, u201, u202, u203, u204, u205, u206, u207, u208, u209, u210, u211, u212, u213, u214, u215, u216, u217, u218, u219, u220, u221, u222, u223, u224, u225, u226, u227, u228, u229, u230, u231, u232, u233, u234, u235, u236, u237, u238, u239, u240, u241, u242, u243, u244, u245, u246, u247, u248, u249, u250, u251, u252, u253, u254, u255, u256, u257, u258, u259, u260, u261, u262, u263, u264, u265, u266, u267, u268, u269, u270, u271, u272, u273, u274, u275, u276, u277, u278, u279, u280, u281, u282, u283, u284, u285, u286, u287, u288, u289, u290, u291, u292, u293, u294, c295, c296, c297, c298, c299, c300, c301], defers := es } W) :
    Code.wp Tryz.prog swCode Q { tmps := #[.slice (some ⟨gs, so, none⟩) n sc, c1, .pointer (some ⟨g2, 0, none⟩), .pointer (some ⟨x, 0, none⟩), .pointer (some ⟨g4, 0, none⟩), .int .i64 (i : Int), .pointer (some ⟨g6, 0, none⟩), .pointer (some ⟨g7, 0, none⟩), .int .i64 c, c9, c10, c11, c12, c13, c14, c15, c16, c17, c18, c19, c20, c21, c22, c23, c24, c25, c26, c27, c28, c29, c30, c31, c32, c33, c34, c35, c36, c37, c38, c39, c40, c41, c42, c43, c44, c45, c46, c47, c48, .int .i64 3, c50, c51, c52, c53, c54, c55, c56, c57, c58, c59, c60, c61, c62, c63, c64, c65, c66, c67, c68, c69, c70, c71, c72, c73, c74, c75, c76, c77, c78, c79, c80, c81, c82, c83, c84, c85, c86, c87, c88, c89, c90, c91, c92, c93, c94, c95, c96, c97, c98, c99, c100, c101, c102, c103, c104, c105, c106, c107, c108, c109, c110, c111, c112, c113, c114, c115, c116, c117, c118, c119, c120, c121, c122, c123, c124, c125, c126, c127, c128, c129, c130, c131, c132, c133, c134, c135, c136, c137, c138, c139, c140, c141, c142, c143, c144, c145, c146, c147, c148, c149, c150, c151, c152, c153, c154, c155, c156, c157, c158, c159, c160, c161, c162, c163, c164, c165, c166, c167, c168, c169, c170, c171, c172, c173, c174, c175, c176, c177, c178, c179, c180, c181, c182, c183, c184, c185, c186, c187, c188, c189, c190, c191, c192, c193, c194, c195, c196, c197, c198, c199, c200, c201, c202, c203, c204, c205, c206, c207, c208, c209, c210, c211, c212, c213, c214, c215, c216, c217, c218, c219, c220, c221, c222, c223, c224, c225, c226, c227, c228, c229, c230, c231, c232, c233, c234, c235, c236, c237, c238, c239, c240, c241, c242, c243, c244, c245, c246, c247, c248, c249, c250, c251, c252, c253, c254, c255, c256, c257, c258, c259, c260, c261, c262, c263, c264, c265, c266, c267, c268, c269, c270, c271, c272, c273, c274, c275, c276, c277, c278, c279, c280, c281, c282, c283, c284, c285, c286, c287, c288, c289, c290, c291, c292, c293, c294, c295, c296, c297, c298, c299, c300, c301], defers := ds } w5 := by
  conv => arg 2; whnf
  have hQ := Lib.hid hQ
  have hOk := Lib.hid hP.out.lam.ok
  have hlen := hP.out.lam.len
  have hgb := Lib.hid (gapsL_bd hlen)
  obtain ⟨m, hm⟩ : ∃ m, m = L.length := ⟨_, rfl⟩
  obtain ⟨A4, c4_, hwv, -⟩ := RRow.form hP.out.row
  rw [← hm] at hwv
  subst hwv
  replace hm := Lib.hid hm
  have hbW := Lib.hid (Below.refl w5.heap.size w5)
  have y0 : w5.cell? ⟨g4, 0, none⟩ = some (.slice A4 m c4_) := hP.out.b4.cell 0
  clear hq
  replace hlen := Lib.hid hlen
  go_upto_region 31 with fail
  go_region_held3 (fun w' => w'.cell? ⟨g4, 0, none⟩ = some (.slice A4 m c4_)) (first | go_keep | fail)
    (first
      | (go_at_call 28; (with_reducible refine (lGaps_any B x vx L _ (by first | exact (hP.out.below hbW.out).lam | exact (hP.out.below (hbW.out.drew)).lam)).mono ?_); rintro en wA ⟨v1, vs1, rfl, hn1, hb⟩; (try dsimp only); have hbl1 := Lib.hid hbW.out.size; have hbs1 := Lib.hid hb.size; (first | (have hj := Lib.hid (nest_join hn2.out hn1 hb (Nat.le_refl _)).2) | skip); replace hbW := Lib.hid (by first | exact hbW.out.trans (hb.mono hbW.out.size) | exact (hbW.out.drew).trans (hb.mono hbW.out.drew.size)); replace hn1 := Lib.hid hn1; have y0 : wA.cell? ⟨g4, 0, none⟩ = some (.slice A4 m c4_) := (hP.out.below hbW.out).b4.cell 0; clear hb)
      | (go_at_call 49; (with_reducible refine (rlgaps_any B (.slice A4 m c4_) L _ (by first | exact (hP.out.below hbW.out).row | exact (hP.out.below (hbW.out.drew)).row) hOk.out hlen.out).mono ?_); rintro en wB ⟨v2, vs2, rfl, hn2, hb⟩; (try dsimp only); have hvl := Lib.hid hn2.1; (first | (have hj := Lib.hid (nest_join hn1.out hn2 hb (Nat.le_refl _)).1; replace hbs1 := Lib.hid (Nat.le_trans hbs1.out hb.size)) | skip); replace hbW := Lib.hid (by first | exact hbW.out.trans (hb.mono hbW.out.size) | exact (hbW.out.drew).trans (hb.mono hbW.out.drew.size)); replace hn2 := Lib.hid hn2; have y0 : wB.cell? ⟨g4, 0, none⟩ = some (.slice A4 m c4_) := (hP.out.below hbW.out).b4.cell 0; clear hb)
      | (go_at_call 48; (with_reducible refine (lsameGaps_any _ _ _ _ _ _ _ _ hj.out hvl.out hgb.out.1 hgb.out.2 hbs1.out).mono ?_); rintro en wC ⟨rfl, hb⟩; (try dsimp only); replace hbW := Lib.hid (hbW.out.trans (hb.mono hbl1.out)); have y0 : wC.cell? ⟨g4, 0, none⟩ = some (.slice A4 m c4_) := (hP.out.below hbW.out).b4.cell 0; clear hb hj hn1 hn2 hvl hbs1 hbl1))
  all_goals
    clear y0
    go_wp2_with fail
    exact hQ.out x vx _ L _ _ _ _ _ _ _ _ _ _ _ _ _ _ _ _ _ _ _ _ _ _ _ _ _ _ _ _ _ _ _ _ _ _ _ _ _ _ _ _ _ _ _ _ _ _ _ _ _ _ _ _ _ _ _ _ _ _ _ _ _ _ _ _ _ _ _ _ _ _ _ _ _ _ _ _ _ _ _ _ _ _ _ _ _ _ _ _ _ _ _ _ _ _ _ _ _ _ _ _ _ _ _ _ _ _ _ _ _ _ _ _ _ _ _ _ _ _ _ _ _ _ _ _ _ _ _ _ _ _ _ _ _ _ _ _ _ _ _ _ _ _ _ _ _ _ _ _ _ _ _ _ _ _ _ _ _ _ _ _ _ _ _ _ _ _ _ _ _ _ _ _ _ _ _ _ _ _ _ _ _ _ _ _ _ _ _ _ _ _ _ _ _ _ _ _ _ _ _ _ _ _ _ _ _ _ _ _ _ _ _ _ _ _ _ _ _ _ _ _ _ _ _ _ _ _ _ _ _ _ _ _ _ _ _ _ _ _ _ _ _ _ _ _ _ _ _ _ _ _ _ _ _ _ _ _ _ _ _ _ _ _ _ _ (hP.out.below hbW.out).head
end Go.Proofs.YtoaggmegmgdgbaaGreat
