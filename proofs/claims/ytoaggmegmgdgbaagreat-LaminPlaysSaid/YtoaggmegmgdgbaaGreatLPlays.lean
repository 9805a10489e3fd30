import Derived.Test.YtoaggmegmgdgbaaGreatPlayS
import Derived.Deep.CutBlock
import Derived.Deep.CutRange
namespace Go.Proofs.YtoaggmegmgdgbaaGreat
open Go.RowKit Go.Sort
attribute [local go_sem] Oper.semAt_some
set_option maxRecDepth 100000 in
set_option maxHeartbeats 40000000 in
theorem laminPlays_any (v : Value) (Ls : List RawS) (w : World) (hv : RdK 8 encT w v Ls) (hz : ∀ r, r ∈ Ls → szT r) :
    Calls Tryz.prog 7 #[v] w (RetVal (.bool true) w) := by
  have cAw := Lib.hid (fun W => lawake_any W)
  obtain ⟨A, c, rfl, hA⟩ := hv
  obtain ⟨n, hn⟩ : ∃ n, n = Ls.length := ⟨_, rfl⟩
  have hzs : Hid (∀ i, i < n → szT Ls[i]!) := Lib.hid (fun i hi => hz _ (by rw [getElem!_pos Ls i (by omega)]; exact List.getElem_mem (by omega)))
  have hCs : Hid (∀ W, Below w.heap.size w W → 0 < n → ∃ g o, A = some ⟨g, o, none⟩ ∧ ∀ i, i < n → ∀ (j : Nat) (u : Value), (encT Ls[i]!)[j]? = some u → W.cell? ⟨g, o + i * 8 + j, none⟩ = some u) := Lib.hid (fun W hb h0 => by
    obtain ⟨g, o, e, h⟩ := hA (by omega)
    refine ⟨g, o, e, fun i hi j u hu => ?_⟩
    have h1 := h i (by omega) j u hu
    rw [hb.cell (block_lt_of_cell h1)]
    exact h1)
  rw [← hn]
  replace hn := Lib.hid hn
  clear hA hz
  have hB := Lib.hid (Below.refl w.heap.size w)
  refine callsIn_wide.1 (callsIn_of_wp_marks (n := 0) Tryz.func7 rfl trivial ?_ rfl)
  simp only [Tryz.ntmps7, List.size_toArray, List.length_cons, List.length_nil, Nat.reduceAdd, Nat.reduceSub, Array.replicate_succ, Array.replicate_zero, List.push_toArray, List.append_toArray, List.nil_append, List.cons_append]
  refine wpIn_wide.2 ?_
  go_upto_region 1 with fail
  have k2 := Lib.hid (Blk.new w 4 #[.bool false])
  replace hB := Lib.hid (hB.out.alloc hB.out.size (.cells #[.bool false] 4))
  generalize hW : w.alloc (.cells #[.bool false] 4) = w1 at hB k2 ⊢
  obtain ⟨g2, hg2⟩ : ∃ g, g = w.heap.size := ⟨_, rfl⟩
  rw [← hg2] at k2 ⊢
  replace hg2 := Lib.hid hg2
  clear hW
  by_cases h60 : 60 < n
  case pos =>
    have h60z : (60 : Int) < (n : Int) := by omega
    have r0 : w1.cell? ⟨g2, 0, none⟩ = some (.bool false) := k2.out.cell 0
    clear hCs hzs r0
    go_wp2_with fail
    refine (cAw.out _).mono ?_
    rintro en w2 ⟨rfl, hb⟩
    replace hB := Lib.hid (hB.out.trans (hb.mono hB.out.size))
    replace k2 := Lib.hid (k2.out.below hb)
    clear hb cAw
    have r0 : w2.cell? ⟨g2, 0, none⟩ = some (.bool false) := k2.out.cell 0
    have r1 := k2.out.frozen 0
    have k3 := Lib.hid (k2.out.set_ 0 (.bool true))
    have hB3 := Lib.hid (hB.out.setCell (p := ⟨g2, 0, none⟩) (by rw [hg2.out]; exact Nat.le_refl _) (.bool true))
    clear k2 hB
    go_wp2_with fail
    have q0 := k3.out.cell 0
    refine leaves_none (P := Tryz.prog) (fn := Tryz.f7) (v := .bool true) (by simp [results, Tryz.results7, go_sem, q0]) ⟨rfl, hB3.out⟩
  case neg =>
    have h60z : ¬ (60 : Int) < (n : Int) := by omega
    go_wp2_with fail
    refine (lNew_any _).mono ?_
    rintro en w2 ⟨rfl, rfl⟩
    have kx := Blk.new w1 103 #[.bool true, .slice none 0 0]
    have hxb : Hid (w.heap.size ≤ w1.heap.size) := Lib.hid hB.out.size
    replace hB := Lib.hid (hB.out.alloc hB.out.size (.cells #[.bool true, .slice none 0 0] 103))
    replace k2 := Lib.hid (k2.out.alloc (.cells #[.bool true, .slice none 0 0] 103))
    generalize hW : w1.alloc (.cells #[.bool true, .slice none 0 0] 103) = w2 at hB k2 kx ⊢
    generalize hgg : w1.heap.size = x at kx hxb ⊢
    clear hW hgg
    replace kx := Lib.hid kx
    go_upto_region 7 with fail
    have hS0 : Hid (LamS w2 w.heap.size x (.slice none 0 0) []) := Lib.hid ⟨⟨kx.out, World.ownsRow_nil _ _ _ _, hxb.out⟩, LOk.nil, Nat.zero_le _⟩
    have k4 := Lib.hid (Blk.new w2 34 #[.slice none 0 0])
    have h4b : Hid (w.heap.size ≤ w2.heap.size) := Lib.hid hB.out.size
    replace hB := Lib.hid (hB.out.alloc hB.out.size (.cells #[.slice none 0 0] 34))
    replace k2 := Lib.hid (k2.out.alloc (.cells #[.slice none 0 0] 34))
    replace hS0 := Lib.hid (hS0.out.alloc (.cells #[.slice none 0 0] 34))
    generalize hW : w2.alloc (.cells #[.slice none 0 0] 34) = w3 at hB k2 hS0 k4 ⊢
    generalize hgg : w2.heap.size = g4 at k4 h4b ⊢
    clear hW hgg kx
    have hlo : Hid (w.heap.size ≤ g2 ∧ w.heap.size ≤ g4 ∧ w.heap.size ≤ w.heap.size) := Lib.hid ⟨by rw [hg2.out]; exact Nat.le_refl _, h4b.out, Nat.le_refl _⟩
    clear h4b hxb h60 hg2
    go_wp2_with fail
    obtain ⟨x0, rfl⟩ : ∃ y, y = x := ⟨_, rfl⟩
    refine wp_loop_ghost_k (fun (k' : Nat) (a' : Act) (w' : World) => ∃ (u3 u5 u6 u7 u8 u9 u10 u11 u12 u13 u14 u15 u16 u17 u18 u19 u20 u21 u22 u23 u24 u32 u33 u34 u35 u36 u37 u38 u39 u40 u41 u42 u43 u44 u45 u46 u47 u48 u49 u50 u51 u52 u53 u54 u55 u56 u57 u58 u59 u60 u61 u62 u63 u64 u65 u66 u67 u68 u69 u70 u71 u72 u73 u74 u75 u76 u77 u78 u79 u80 u81 u82 u83 u84 u85 u86 u87 u88 u89 u90 u91 u92 u93 u94 u95 u96 u97 u98 u99 u100 u101 u102 u103 u104 u105 u106 u107 u108 u109 u110 u111 u112 u113 u114 u115 u116 u117 u118 u119 u120 u121 u122 u123 u124 u125 u126 u127 u128 u129 u130 u131 u132 u133 u134 u135 u136 u137 u138 u139 u140 u141 u142 u143 u144 u145 u146 u147 u148 u149 u150 u151 u152 u153 u154 u155 u156 u157 u158 u159 u160 u161 u162 u163 u164 u165 u166 u167 u168 u169 u170 u171 u172 u173 u174 u175 u176 u177 u178 u179 u180 u181 u182 u183 u184 u185 u186 u187 u188 u189 u190 u191 u192 u193 u194 u195 u196 u197 u198 u199 u200 u201 u202 u203 u204 u205 u206 u207 u208 u209 u210 u211 u212 u213 u214 u215 u216 u217 u218 u219 u220 u221 u222 u223 u224 u225 u226 u227 u228 u229 u230 u231 u232 u233 u234 u235 u236 u237 u238 u239 u240 u241 u242 u243 u244 u245 u246 u247 u248 u249 u250 u251 u252 u253 u254 u255 u256 u257 u258 u259 u260 u261 u262 u263 u264 u265 u266 u267 u268 u269 u270 u271 u272 u273 u274 u275 u276 u277 u278 u279 u280 u281 u282 u283 u284 u285 u286 u287 u288 u289 u290 u291 u292 u293 u294 : Value) (ds : List Deferred), (∃ (i x : Nat) (vx wv : Value) (L : List Lf), u3 = .pointer (some ⟨x, 0, none⟩) ∧ u5 = .int .i64 (i : Int) ∧ i ≤ n ∧ n - i ≤ k' ∧ Hid (PlH w.heap.size g2 g4 x vx wv L ds w w')) ∧ a' = { tmps := #[.slice A n c, undef, .pointer (some ⟨g2, 0, none⟩), u3, .pointer (some ⟨g4, 0, none⟩), u5, u6, u7, u8, u9, u10, u11, u12, u13, u14, u15, u16, u17, u18, u19, u20, u21, u22, u23, u24, .slice A n c, .int .i64 (n : Int), .bool false, undef, .pointer (some ⟨x0, 0, none⟩), .pointer (some ⟨x0, 0, none⟩), .bool false, u32, u33, u34, u35, u36, u37, u38, u39, u40, u41, u42, u43, u44, u45, u46, u47, u48, u49, u50, u51, u52, u53, u54, u55, u56, u57, u58, u59, u60, u61, u62, u63, u64, u65, u66, u67, u68, u69, u70, u71, u72, u73, u74, u75, u76, u77, u78, u79, u80, u81, u82, u83, u84, u85, u86, u87, u88, u89, u90, u91, u92, u93, u94, u95, u96, u97, u98, u99, u100, u101, u102, u103, u104, u105, u106, u107, u108, u109, u110, u111, u112, u113, u114, u115, u116, u117, u118, u119, u120, u121, u122, u123, u124, u125, u126, u127, u128, u129, u130, u131, u132, u133, u134, u135, u136, u137, u138, u139, u140, u141, u142, u143, u144, u145, u146, u147, u148, u149, u150, u151, u152, u153, u154, u155, u156, u157, u158, u159, u160, u161, u162, u163, u164, u165, u166, u167, u168, u169, u170, u171, u172, u173, u174, u175, u176, u177, u178, u179, u180, u181, u182, u183, u184, u185, u186, u187, u188, u189, u190, u191, u192, u193, u194, u195, u196, u197, u198, u199, u200, u201, u202, u203, u204, u205, u206, u207, u208, u209, u210, u211, u212, u213, u214, u215, u216, u217, u218, u219, u220, u221, u222, u223, u224, u225, u226, u227, u228, u229, u230, u231, u232, u233, u234, u235, u236, u237, u238, u239, u240, u241, u242, u243, u244, u245, u246, u247, u248, u249, u250, u251, u252, u253, u254, u255, u256, u257, u258, u259, u260, u261, u262, u263, u264, u265, u266, u267, u268, u269, u270, u271, u272, u273, u274, u275, u276, u277, u278, u279, u280, u281, u282, u283, u284, u285, u286, u287, u288, u289, u290, u291, u292, u293, u294, undef, undef, undef, undef, undef, undef, undef], defers := ds }) n ?_ ?_
    · (repeat apply Exists.intro)
      refine ⟨?_, rfl⟩
      exact ⟨0, _, _, _, _, rfl, rfl, Nat.zero_le _, Nat.le_refl _, Lib.hid ⟨hS0.out, World.ownsRow_nil _ _ _ _, k2.out, k4.out, Marks.nil _ _, hB.out, hlo.out⟩⟩
    intro gk _ wr hinv
    obtain ⟨u3, hinv⟩ := hinv
    obtain ⟨u5, hinv⟩ := hinv
    obtain ⟨u6, hinv⟩ := hinv
    obtain ⟨u7, hinv⟩ := hinv
    obtain ⟨u8, hinv⟩ := hinv
    obtain ⟨u9, hinv⟩ := hinv
    obtain ⟨u10, hinv⟩ := hinv
    obtain ⟨u11, hinv⟩ := hinv
    obtain ⟨u12, hinv⟩ := hinv
    obtain ⟨u13, hinv⟩ := hinv
    obtain ⟨u14, hinv⟩ := hinv
    obtain ⟨u15, hinv⟩ := hinv
    obtain ⟨u16, hinv⟩ := hinv
    obtain ⟨u17, hinv⟩ := hinv
    obtain ⟨u18, hinv⟩ := hinv
    obtain ⟨u19, hinv⟩ := hinv
    obtain ⟨u20, hinv⟩ := hinv
    obtain ⟨u21, hinv⟩ := hinv
    obtain ⟨u22, hinv⟩ := hinv
    obtain ⟨u23, hinv⟩ := hinv
    obtain ⟨u24, hinv⟩ := hinv
    obtain ⟨u32, hinv⟩ := hinv
    obtain ⟨u33, hinv⟩ := hinv
    obtain ⟨u34, hinv⟩ := hinv
    obtain ⟨u35, hinv⟩ := hinv
    obtain ⟨u36, hinv⟩ := hinv
    obtain ⟨u37, hinv⟩ := hinv
    obtain ⟨u38, hinv⟩ := hinv
    obtain ⟨u39, hinv⟩ := hinv
    obtain ⟨u40, hinv⟩ := hinv
    obtain ⟨u41, hinv⟩ := hinv
    obtain ⟨u42, hinv⟩ := hinv
    obtain ⟨u43, hinv⟩ := hinv
    obtain ⟨u44, hinv⟩ := hinv
    obtain ⟨u45, hinv⟩ := hinv
    obtain ⟨u46, hinv⟩ := hinv
    obtain ⟨u47, hinv⟩ := hinv
    obtain ⟨u48, hinv⟩ := hinv
    obtain ⟨u49, hinv⟩ := hinv
    obtain ⟨u50, hinv⟩ := hinv
    obtain ⟨u51, hinv⟩ := hinv
    obtain ⟨u52, hinv⟩ := hinv
    obtain ⟨u53, hinv⟩ := hinv
    obtain ⟨u54, hinv⟩ := hinv
    obtain ⟨u55, hinv⟩ := hinv
    obtain ⟨u56, hinv⟩ := hinv
    obtain ⟨u57, hinv⟩ := hinv
    obtain ⟨u58, hinv⟩ := hinv
    obtain ⟨u59, hinv⟩ := hinv
    obtain ⟨u60, hinv⟩ := hinv
    obtain ⟨u61, hinv⟩ := hinv
    obtain ⟨u62, hinv⟩ := hinv
    obtain ⟨u63, hinv⟩ := hinv
    obtain ⟨u64, hinv⟩ := hinv
    obtain ⟨u65, hinv⟩ := hinv
    obtain ⟨u66, hinv⟩ := hinv
    obtain ⟨u67, hinv⟩ := hinv
    obtain ⟨u68, hinv⟩ := hinv
    obtain ⟨u69, hinv⟩ := hinv
    obtain ⟨u70, hinv⟩ := hinv
    obtain ⟨u71, hinv⟩ := hinv
    obtain ⟨u72, hinv⟩ := hinv
    obtain ⟨u73, hinv⟩ := hinv
    obtain ⟨u74, hinv⟩ := hinv
    obtain ⟨u75, hinv⟩ := hinv
    obtain ⟨u76, hinv⟩ := hinv
    obtain ⟨u77, hinv⟩ := hinv
    obtain ⟨u78, hinv⟩ := hinv
    obtain ⟨u79, hinv⟩ := hinv
    obtain ⟨u80, hinv⟩ := hinv
    obtain ⟨u81, hinv⟩ := hinv
    obtain ⟨u82, hinv⟩ := hinv
    obtain ⟨u83, hinv⟩ := hinv
    obtain ⟨u84, hinv⟩ := hinv
    obtain ⟨u85, hinv⟩ := hinv
    obtain ⟨u86, hinv⟩ := hinv
    obtain ⟨u87, hinv⟩ := hinv
    obtain ⟨u88, hinv⟩ := hinv
    obtain ⟨u89, hinv⟩ := hinv
    obtain ⟨u90, hinv⟩ := hinv
    obtain ⟨u91, hinv⟩ := hinv
    obtain ⟨u92, hinv⟩ := hinv
    obtain ⟨u93, hinv⟩ := hinv
    obtain ⟨u94, hinv⟩ := hinv
    obtain ⟨u95, hinv⟩ := hinv
    obtain ⟨u96, hinv⟩ := hinv
    obtain ⟨u97, hinv⟩ := hinv
    obtain ⟨u98, hinv⟩ := hinv
    obtain ⟨u99, hinv⟩ := hinv
    obtain ⟨u100, hinv⟩ := hinv
    obtain ⟨u101, hinv⟩ := hinv
    obtain ⟨u102, hinv⟩ := hinv
    obtain ⟨u103, hinv⟩ := hinv
    obtain ⟨u104, hinv⟩ := hinv
    obtain ⟨u105, hinv⟩ := hinv
    obtain ⟨u106, hinv⟩ := hinv
    obtain ⟨u107, hinv⟩ := hinv
    obtain ⟨u108, hinv⟩ := hinv
    obtain ⟨u109, hinv⟩ := hinv
    obtain ⟨u110, hinv⟩ := hinv
    obtain ⟨u111, hinv⟩ := hinv
    obtain ⟨u112, hinv⟩ := hinv
    obtain ⟨u113, hinv⟩ := hinv
    obtain ⟨u114, hinv⟩ := hinv
    obtain ⟨u115, hinv⟩ := hinv
    obtain ⟨u116, hinv⟩ := hinv
    obtain ⟨u117, hinv⟩ := hinv
    obtain ⟨u118, hinv⟩ := hinv
    obtain ⟨u119, hinv⟩ := hinv
    obtain ⟨u120, hinv⟩ := hinv
    obtain ⟨u121, hinv⟩ := hinv
    obtain ⟨u122, hinv⟩ := hinv
    obtain ⟨u123, hinv⟩ := hinv
    obtain ⟨u124, hinv⟩ := hinv
    obtain ⟨u125, hinv⟩ := hinv
    obtain ⟨u126, hinv⟩ := hinv
    obtain ⟨u127, hinv⟩ := hinv
    obtain ⟨u128, hinv⟩ := hinv
    obtain ⟨u129, hinv⟩ := hinv
    obtain ⟨u130, hinv⟩ := hinv
    obtain ⟨u131, hinv⟩ := hinv
    obtain ⟨u132, hinv⟩ := hinv
    obtain ⟨u133, hinv⟩ := hinv
    obtain ⟨u134, hinv⟩ := hinv
    obtain ⟨u135, hinv⟩ := hinv
    obtain ⟨u136, hinv⟩ := hinv
    obtain ⟨u137, hinv⟩ := hinv
    obtain ⟨u138, hinv⟩ := hinv
    obtain ⟨u139, hinv⟩ := hinv
    obtain ⟨u140, hinv⟩ := hinv
    obtain ⟨u141, hinv⟩ := hinv
    obtain ⟨u142, hinv⟩ := hinv
    obtain ⟨u143, hinv⟩ := hinv
    obtain ⟨u144, hinv⟩ := hinv
    obtain ⟨u145, hinv⟩ := hinv
    obtain ⟨u146, hinv⟩ := hinv
    obtain ⟨u147, hinv⟩ := hinv
    obtain ⟨u148, hinv⟩ := hinv
    obtain ⟨u149, hinv⟩ := hinv
    obtain ⟨u150, hinv⟩ := hinv
    obtain ⟨u151, hinv⟩ := hinv
    obtain ⟨u152, hinv⟩ := hinv
    obtain ⟨u153, hinv⟩ := hinv
    obtain ⟨u154, hinv⟩ := hinv
    obtain ⟨u155, hinv⟩ := hinv
    obtain ⟨u156, hinv⟩ := hinv
    obtain ⟨u157, hinv⟩ := hinv
    obtain ⟨u158, hinv⟩ := hinv
    obtain ⟨u159, hinv⟩ := hinv
    obtain ⟨u160, hinv⟩ := hinv
    obtain ⟨u161, hinv⟩ := hinv
    obtain ⟨u162, hinv⟩ := hinv
    obtain ⟨u163, hinv⟩ := hinv
    obtain ⟨u164, hinv⟩ := hinv
    obtain ⟨u165, hinv⟩ := hinv
    obtain ⟨u166, hinv⟩ := hinv
    obtain ⟨u167, hinv⟩ := hinv
    obtain ⟨u168, hinv⟩ := hinv
    obtain ⟨u169, hinv⟩ := hinv
    obtain ⟨u170, hinv⟩ := hinv
    obtain ⟨u171, hinv⟩ := hinv
    obtain ⟨u172, hinv⟩ := hinv
    obtain ⟨u173, hinv⟩ := hinv
    obtain ⟨u174, hinv⟩ := hinv
    obtain ⟨u175, hinv⟩ := hinv
    obtain ⟨u176, hinv⟩ := hinv
    obtain ⟨u177, hinv⟩ := hinv
    obtain ⟨u178, hinv⟩ := hinv
    obtain ⟨u179, hinv⟩ := hinv
    obtain ⟨u180, hinv⟩ := hinv
    obtain ⟨u181, hinv⟩ := hinv
    obtain ⟨u182, hinv⟩ := hinv
    obtain ⟨u183, hinv⟩ := hinv
    obtain ⟨u184, hinv⟩ := hinv
    obtain ⟨u185, hinv⟩ := hinv
    obtain ⟨u186, hinv⟩ := hinv
    obtain ⟨u187, hinv⟩ := hinv
    obtain ⟨u188, hinv⟩ := hinv
    obtain ⟨u189, hinv⟩ := hinv
    obtain ⟨u190, hinv⟩ := hinv
    obtain ⟨u191, hinv⟩ := hinv
    obtain ⟨u192, hinv⟩ := hinv
    obtain ⟨u193, hinv⟩ := hinv
    obtain ⟨u194, hinv⟩ := hinv
    obtain ⟨u195, hinv⟩ := hinv
    obtain ⟨u196, hinv⟩ := hinv
    obtain ⟨u197, hinv⟩ := hinv
    obtain ⟨u198, hinv⟩ := hinv
    obtain ⟨u199, hinv⟩ := hinv
    obtain ⟨u200, hinv⟩ := hinv
    obtain ⟨u201, hinv⟩ := hinv
    obtain ⟨u202, hinv⟩ := hinv
    obtain ⟨u203, hinv⟩ := hinv
    obtain ⟨u204, hinv⟩ := hinv
    obtain ⟨u205, hinv⟩ := hinv
    obtain ⟨u206, hinv⟩ := hinv
    obtain ⟨u207, hinv⟩ := hinv
    obtain ⟨u208, hinv⟩ := hinv
    obtain ⟨u209, hinv⟩ := hinv
    obtain ⟨u210, hinv⟩ := hinv
    obtain ⟨u211, hinv⟩ := hinv
    obtain ⟨u212, hinv⟩ := hinv
    obtain ⟨u213, hinv⟩ := hinv
    obtain ⟨u214, hinv⟩ := hinv
    obtain ⟨u215, hinv⟩ := hinv
    obtain ⟨u216, hinv⟩ := hinv
    obtain ⟨u217, hinv⟩ := hinv
    obtain ⟨u218, hinv⟩ := hinv
    obtain ⟨u219, hinv⟩ := hinv
    obtain ⟨u220, hinv⟩ := hinv
    obtain ⟨u221, hinv⟩ := hinv
    obtain ⟨u222, hinv⟩ := hinv
    obtain ⟨u223, hinv⟩ := hinv
    obtain ⟨u224, hinv⟩ := hinv
    obtain ⟨u225, hinv⟩ := hinv
    obtain ⟨u226, hinv⟩ := hinv
    obtain ⟨u227, hinv⟩ := hinv
    obtain ⟨u228, hinv⟩ := hinv
    obtain ⟨u229, hinv⟩ := hinv
    obtain ⟨u230, hinv⟩ := hinv
    obtain ⟨u231, hinv⟩ := hinv
    obtain ⟨u232, hinv⟩ := hinv
    obtain ⟨u233, hinv⟩ := hinv
    obtain ⟨u234, hinv⟩ := hinv
    obtain ⟨u235, hinv⟩ := hinv
    obtain ⟨u236, hinv⟩ := hinv
    obtain ⟨u237, hinv⟩ := hinv
    obtain ⟨u238, hinv⟩ := hinv
    obtain ⟨u239, hinv⟩ := hinv
    obtain ⟨u240, hinv⟩ := hinv
    obtain ⟨u241, hinv⟩ := hinv
    obtain ⟨u242, hinv⟩ := hinv
    obtain ⟨u243, hinv⟩ := hinv
    obtain ⟨u244, hinv⟩ := hinv
    obtain ⟨u245, hinv⟩ := hinv
    obtain ⟨u246, hinv⟩ := hinv
    obtain ⟨u247, hinv⟩ := hinv
    obtain ⟨u248, hinv⟩ := hinv
    obtain ⟨u249, hinv⟩ := hinv
    obtain ⟨u250, hinv⟩ := hinv
    obtain ⟨u251, hinv⟩ := hinv
    obtain ⟨u252, hinv⟩ := hinv
    obtain ⟨u253, hinv⟩ := hinv
    obtain ⟨u254, hinv⟩ := hinv
    obtain ⟨u255, hinv⟩ := hinv
    obtain ⟨u256, hinv⟩ := hinv
    obtain ⟨u257, hinv⟩ := hinv
    obtain ⟨u258, hinv⟩ := hinv
    obtain ⟨u259, hinv⟩ := hinv
    obtain ⟨u260, hinv⟩ := hinv
    obtain ⟨u261, hinv⟩ := hinv
    obtain ⟨u262, hinv⟩ := hinv
    obtain ⟨u263, hinv⟩ := hinv
    obtain ⟨u264, hinv⟩ := hinv
    obtain ⟨u265, hinv⟩ := hinv
    obtain ⟨u266, hinv⟩ := hinv
    obtain ⟨u267, hinv⟩ := hinv
    obtain ⟨u268, hinv⟩ := hinv
    obtain ⟨u269, hinv⟩ := hinv
    obtain ⟨u270, hinv⟩ := hinv
    obtain ⟨u271, hinv⟩ := hinv
    obtain ⟨u272, hinv⟩ := hinv
    obtain ⟨u273, hinv⟩ := hinv
    obtain ⟨u274, hinv⟩ := hinv
    obtain ⟨u275, hinv⟩ := hinv
    obtain ⟨u276, hinv⟩ := hinv
    obtain ⟨u277, hinv⟩ := hinv
    obtain ⟨u278, hinv⟩ := hinv
    obtain ⟨u279, hinv⟩ := hinv
    obtain ⟨u280, hinv⟩ := hinv
    obtain ⟨u281, hinv⟩ := hinv
    obtain ⟨u282, hinv⟩ := hinv
    obtain ⟨u283, hinv⟩ := hinv
    obtain ⟨u284, hinv⟩ := hinv
    obtain ⟨u285, hinv⟩ := hinv
    obtain ⟨u286, hinv⟩ := hinv
    obtain ⟨u287, hinv⟩ := hinv
    obtain ⟨u288, hinv⟩ := hinv
    obtain ⟨u289, hinv⟩ := hinv
    obtain ⟨u290, hinv⟩ := hinv
    obtain ⟨u291, hinv⟩ := hinv
    obtain ⟨u292, hinv⟩ := hinv
    obtain ⟨u293, hinv⟩ := hinv
    obtain ⟨u294, hinv⟩ := hinv
    obtain ⟨ds, hinv⟩ := hinv
    obtain ⟨hrel, ha⟩ := hinv
    subst ha
    try dsimp only
    intro _ _ _ _
    clear hB k2 hS0 k4 hlo
    obtain ⟨i, x, vx, wv, L, rfl, rfl, hin, hg, hH⟩ := hrel
    by_cases hlt : i < n
    case neg =>
      obtain rfl : n = i := by omega
      obtain ⟨m, hm⟩ : ∃ m, m = L.length := ⟨_, rfl⟩
      obtain ⟨A4, c4_, hwv, -⟩ := RRow.form hH.out.row
      rw [← hm] at hwv
      subst hwv
      replace hm := Lib.hid hm
      have hOk := Lib.hid hH.out.lam.ok
      have hlen := Lib.hid hH.out.lam.len
      have hbW := Lib.hid (Below.refl wr.heap.size wr)
      have hne24 : Hid (g2 ≠ g4) := Lib.hid (blk_neB hH.out.b2 hH.out.b4 (by decide))
      have y0 : wr.cell? ⟨g4, 0, none⟩ = some (.slice A4 m c4_) := hH.out.b4.cell 0
      clear hCs hzs hlt hin
      go_upto_region 76 with fail
      go_region_held3 (fun w' => w'.cell? ⟨g4, 0, none⟩ = some (.slice A4 m c4_)) (first | go_keep | (exact (World.cell?_setCell_other _ _ _ _ (fun e => hne24.out (by injection e))).trans y0))
        (first
          | (go_at_call 52; (with_reducible refine (lleaves_any w.heap.size x vx L _ (by first | exact (PlH.below hH.out hbW.out).lam | exact (PlH.below hH.out (hbW.out.drew)).lam)).mono ?_); rintro en wA ⟨v1, rfl, hr1, hb⟩; (try dsimp only); replace hbW := Lib.hid (by first | exact hbW.out.trans (hb.mono hbW.out.size) | exact (hbW.out.drew).trans (hb.mono hbW.out.drew.size)); replace hr1 := Lib.hid hr1; have y0 : wA.cell? ⟨g4, 0, none⟩ = some (.slice A4 m c4_) := (PlH.below hH.out hbW.out).b4.cell 0; have z0 : wA.cell? ⟨g2, 0, none⟩ = some (.bool false) := (PlH.below hH.out hbW.out).b2.cell 0; have zf := (PlH.below hH.out hbW.out).b2.frozen 0; clear hb)
          | (go_at_call 15; (with_reducible refine (lsame23_any _ w.heap.size v1 (.slice A4 m c4_) L _ hr1.out (PlH.below hH.out hbW.out).row hOk.out.ang (by have := hlen.out; omega)).mono ?_); rintro en wB ⟨rfl, hb⟩; (try dsimp only); replace hbW := Lib.hid (by first | exact hbW.out.trans (hb.mono hbW.out.size) | exact (hbW.out.drew).trans (hb.mono hbW.out.drew.size)); have y0 : wB.cell? ⟨g4, 0, none⟩ = some (.slice A4 m c4_) := (PlH.below hH.out hbW.out).b4.cell 0; have z0 : wB.cell? ⟨g2, 0, none⟩ = some (.bool false) := (PlH.below hH.out hbW.out).b2.cell 0; have zf := (PlH.below hH.out hbW.out).b2.frozen 0; clear hb hr1)
          | (go_at_call 11; (with_reducible refine (cAw.out _).mono ?_); rintro en wC ⟨rfl, hb⟩; (try dsimp only); replace hbW := Lib.hid (by first | exact hbW.out.trans (hb.mono hbW.out.size) | exact (hbW.out.drew).trans (hb.mono hbW.out.drew.size)); have y0 : wC.cell? ⟨g4, 0, none⟩ = some (.slice A4 m c4_) := (PlH.below hH.out hbW.out).b4.cell 0; have z0 : wC.cell? ⟨g2, 0, none⟩ = some (.bool false) := (PlH.below hH.out hbW.out).b2.cell 0; have zf := (PlH.below hH.out hbW.out).b2.frozen 0; clear hb))
      all_goals
        clear y0 z0 zf
        have hHn := Lib.hid (PlH.below hH.out hbW.out)
        have k2 := Lib.hid (hHn.out.b2.set_ 0 (.bool true))
        have hM := Lib.hid (hHn.out.mks.keep (w' := wC.setCell ⟨g2, 0, none⟩ (.bool true)) (fun k hk => Below.heap_setCell wC ⟨g2, 0, none⟩ _ k (fun e => blk_notD hHn.out.b2 hk e.symm)))
        have hB2 := Lib.hid (hHn.out.bel.setCell (p := ⟨g2, 0, none⟩) hHn.out.lo.1 (.bool true))
        clear hH hHn hbW
        go_wp2_with fail
        refine leaves_many (P := Tryz.prog) (fn := Tryz.f7) (v := .bool true) hM.out (fun W' a1 a2 a3 a4 a5 => ?_)
        have k9 : Blk W' g2 4 #[.bool true] := (a5 g2 (.inl (fun e => blk_notD k2.out e rfl))).trans k2.out
        have q0 := Blk.cell k9 0
        exact ⟨by simp [results, Tryz.results7, go_sem, q0], rfl, hB2.out.trans ⟨a1, a2, a3, a4, fun k hk => a5 k (.inr hk)⟩⟩
    case pos =>
      obtain ⟨g, o, hAe, hC⟩ := hCs.out wr hH.out.bel (by omega)
      subst hAe
      replace hC := hC i hlt
      obtain ⟨⟨dz, ⟨⟨n1, a1, d1⟩, n2, a2, d2⟩, nz⟩, hr⟩ : ∃ r, r = Ls[i]! := ⟨_, rfl⟩
      have hsz := hzs.out i hlt
      rw [← hr] at hC hsz
      obtain ⟨hz1, hz2, hz3, hz4⟩ := hsz
      have m0 : wr.cell? ⟨g, o + i * 8, none⟩ = some (.int .i64 dz) := hC 0 _ rfl
      have m1 : wr.cell? ⟨g, o + i * 8 + 1, none⟩ = some (.bool n1) := hC 1 _ rfl
      have m2 : wr.cell? ⟨g, o + i * 8 + 2, none⟩ = some (.string a1) := hC 2 _ rfl
      have m3 : wr.cell? ⟨g, o + i * 8 + 3, none⟩ = some (.string d1) := hC 3 _ rfl
      have m4 : wr.cell? ⟨g, o + i * 8 + 4, none⟩ = some (.bool n2) := hC 4 _ rfl
      have m5 : wr.cell? ⟨g, o + i * 8 + 5, none⟩ = some (.string a2) := hC 5 _ rfl
      have m6 : wr.cell? ⟨g, o + i * 8 + 6, none⟩ = some (.string d2) := hC 6 _ rfl
      have m7 : wr.cell? ⟨g, o + i * 8 + 7, none⟩ = some (.int .i64 nz) := hC 7 _ rfl
      have hiz : (i : Int) < (n : Int) := by omega
      replace hr := Lib.hid hr
      clear hC
      go_upto_region 11 with fail
      have k6 := Blk.new wr 91 #[.int .i64 dz, .bool n1, .string a1, .string d1, .bool n2, .string a2, .string d2, .int .i64 nz]
      have hH6 := PlH.below hH.out ((Below.refl _ wr).alloc (Nat.le_refl _) (.cells #[.int .i64 dz, .bool n1, .string a1, .string d1, .bool n2, .string a2, .string d2, .int .i64 nz] 91))
      generalize hW : wr.alloc (.cells #[.int .i64 dz, .bool n1, .string a1, .string d1, .bool n2, .string a2, .string d2, .int .i64 nz] 91) = w3 at hH6 k6 ⊢
      generalize hgg : wr.heap.size = g6 at k6 ⊢
      clear hW hgg hH m0 m1 m2 m3 m4 m5 m6 m7
      replace k6 := Lib.hid k6
      replace hH6 := Lib.hid hH6
      have s0 : w3.cell? ⟨g6, 1, none⟩ = some (.bool n1) := k6.out.cell 1
      have s1 : w3.cell? ⟨g6, 2, none⟩ = some (.string a1) := k6.out.cell 2
      have s2 : w3.cell? ⟨g6, 3, none⟩ = some (.string d1) := k6.out.cell 3
      have s3 : w3.cell? ⟨g6, 4, none⟩ = some (.bool n2) := k6.out.cell 4
      have s4 : w3.cell? ⟨g6, 5, none⟩ = some (.string a2) := k6.out.cell 5
      have s5 : w3.cell? ⟨g6, 6, none⟩ = some (.string d2) := k6.out.cell 6
      have cO := Lib.hid (rlOf_any n1 a1 d1 n2 a2 d2 w3 hz1 hz2 hz3 hz4)
      obtain ⟨q0, q1, q2, q3, hqe⟩ : ∃ q0 q1 q2 q3 : Int, (rof23 n1 a1 d1 n2 a2 d2).1 = .agg #[.int .u64 q0, .int .u64 q1, .int .u64 q2, .int .u64 q3] := by
        unfold rof23
        split
        · exact ⟨_, _, _, _, rfl⟩
        · exact ⟨_, _, _, _, rfl⟩
      obtain ⟨c, hcE⟩ : ∃ c, c = chkLf n1 a1 d1 n2 a2 d2 := ⟨_, rfl⟩
      have hq : Hid (c = 0 → ∃ l : Lf, Lfp l ∧ n1 = false ∧ a1 = natS l.1.1 ∧ d1 = natS l.1.2 ∧ n2 = false ∧ a2 = natS l.2.1 ∧ d2 = natS l.2.2 ∧ #[Value.int .u64 q0, .int .u64 q1, .int .u64 q2, .int .u64 q3] = #[.int .u64 (l.1.1 : Int), .int .u64 (l.1.2 : Int), .int .u64 (l.2.1 : Int), .int .u64 (l.2.2 : Int)]) := Lib.hid (fun h => by
        rw [hcE] at h
        obtain ⟨l, h1, h2, rfl, rfl, rfl, rfl, rfl, rfl⟩ := chkLf_zero h
        refine ⟨l, ⟨h1, h2⟩, rfl, rfl, rfl, rfl, rfl, rfl, ?_⟩
        have e : (rof23 false (natS l.1.1) (natS l.1.2) false (natS l.2.1) (natS l.2.2)).1 = rlV l := by
          unfold rof23
          rw [if_pos h, be_natS, be_natS, be_natS, be_natS]
        rw [hqe] at e
        unfold rlV at e
        injection e)
      have hc2 : (rof23 n1 a1 d1 n2 a2 d2).2 = c := by rw [hcE]; rfl
      rw [hqe, hc2] at cO
      replace hcE := Lib.hid hcE
      clear hqe hc2
      go_wp2_with fail
      refine cO.out.mono ?_
      rintro en w4 ⟨rfl, hb⟩
      replace k6 := Lib.hid (k6.out.below hb)
      replace hH6 := Lib.hid (PlH.below hH6.out hb)
      clear hb cO s0 s1 s2 s3 s4 s5
      go_upto_region 12 with fail
      have k7 := Blk.new w4 44 #[.int .u64 q0, .int .u64 q1, .int .u64 q2, .int .u64 q3]
      have hH7 := PlH.below hH6.out ((Below.refl _ w4).alloc (Nat.le_refl _) (.cells #[.int .u64 q0, .int .u64 q1, .int .u64 q2, .int .u64 q3] 44))
      have k67 := k6.out.alloc (.cells #[.int .u64 q0, .int .u64 q1, .int .u64 q2, .int .u64 q3] 44)
      generalize hW : w4.alloc (.cells #[.int .u64 q0, .int .u64 q1, .int .u64 q2, .int .u64 q3] 44) = w5 at hH7 k7 k67 ⊢
      generalize hgg : w4.heap.size = g7 at k7 ⊢
      clear hW hgg hH6 k6
      have hP : Hid (PlS w.heap.size g2 g4 g6 g7 x vx wv L L #[.int .i64 dz, .bool n1, .string a1, .string d1, .bool n2, .string a2, .string d2, .int .i64 nz] #[.int .u64 q0, .int .u64 q1, .int .u64 q2, .int .u64 q3] ds w w5) := Lib.hid (PlH.full hH7 k67 k7)
      clear hH7 k67 k7
      have t0 : w5.cell? ⟨g6, 0, none⟩ = some (.int .i64 dz) := hP.out.b6.cell 0
      go_upto_block 2 with fail
      clear t0
      refine plays_switch _ _ _ _ _ _ _ _ _ _ _ _ _ _ _ _ _ _ _ _ _ _ _ _ _ _ _ _ _ _ _ _ _ _ _ _ _ _ _ _ _ _ _ _ _ _ _ _ _ _ _ _ _ _ _ _ _ _ _ _ _ _ _ _ _ _ _ _ _ _ _ _ _ _ _ _ _ _ _ _ _ _ _ _ _ _ _ _ _ _ _ _ _ _ _ _ _ _ _ _ _ _ _ _ _ _ _ _ _ _ _ _ _ _ _ _ _ _ _ _ _ _ _ _ _ _ _ _ _ _ _ _ _ _ _ _ _ _ _ _ _ _ _ _ _ _ _ _ _ _ _ _ _ _ _ _ _ _ _ _ _ _ _ _ _ _ _ _ _ _ _ _ _ _ _ _ _ _ _ _ _ _ _ _ _ _ _ _ _ _ _ _ _ _ _ _ _ _ _ _ _ _ _ _ _ _ _ _ _ _ _ _ _ _ _ _ _ _ _ _ _ _ _ _ _ _ _ _ _ _ _ _ _ _ _ _ _ _ _ _ _ _ _ _ _ _ _ _ _ _ _ _ _ _ _ _ _ _ _ _ _ _ _ _ _ _ _ _ _ _ _ _ _ _ _ _ _ _ _ _ _ _ _ _ _ _ _ _ _ _ _ _ _ _ _ _ _ g2 g4 g6 g7 x i w.heap.size vx wv L ds w w5 dz nz c q0 q1 q2 q3 n1 a1 d1 n2 a2 d2 _ hz1 hz2 hz3 hz4 hq hcE hP ?hN ?hX ?hR
      case hN =>
        intro y vy wy L2 w8_ w9_ w10_ w11_ w12_ w13_ w14_ w15_ w16_ w17_ w18_ w19_ w20_ w21_ w22_ w23_ w24_ w50_ w51_ w52_ w53_ w54_ w55_ w56_ w57_ w58_ w59_ w60_ w61_ w62_ w63_ w64_ w65_ w66_ w67_ w68_ w69_ w70_ w71_ w72_ w73_ w74_ w75_ w76_ w77_ w78_ w79_ w80_ w81_ w82_ w83_ w84_ w85_ w86_ w87_ w88_ w89_ w90_ w91_ w92_ w93_ w94_ w95_ w96_ w97_ w98_ w99_ w100_ w101_ w102_ w103_ w104_ w105_ w106_ w107_ w108_ w109_ w110_ w111_ w112_ w113_ w114_ w115_ w116_ w117_ w118_ w119_ w120_ w121_ w122_ w123_ w124_ w125_ w126_ w127_ w128_ w129_ w130_ w131_ w132_ w133_ w134_ w135_ w136_ w137_ w138_ w139_ w140_ w141_ w142_ w143_ w144_ w145_ w146_ w147_ w148_ w149_ w150_ w151_ w152_ w153_ w154_ w155_ w156_ w157_ w158_ w159_ w160_ w161_ w162_ w163_ w164_ w165_ w166_ w167_ w168_ w169_ w170_ w171_ w172_ w173_ w174_ w175_ w176_ w177_ w178_ w179_ w180_ w181_ w182_ w183_ w184_ w185_ w186_ w187_ w188_ w189_ w190_ w191_ w192_ w193_ w194_ w195_ w196_ w197_ w198_ w199_ w200_ w201_ w202_ w203_ w204_ w205_ w206_ w207_ w208_ w209_ w210_ w211_ w212_ w213_ w214_ w215_ w216_ w217_ w218_ w219_ w220_ w221_ w222_ w223_ w224_ w225_ w226_ w227_ w228_ w229_ w230_ w231_ w232_ w233_ w234_ w235_ w236_ w237_ w238_ w239_ w240_ w241_ w242_ w243_ w244_ w245_ w246_ w247_ w248_ w249_ w250_ w251_ w252_ w253_ w254_ w255_ w256_ w257_ w258_ w259_ w260_ w261_ w262_ w263_ w264_ w265_ w266_ w267_ w268_ w269_ w270_ w271_ w272_ w273_ w274_ w275_ w276_ w277_ w278_ w279_ w280_ w281_ w282_ w283_ w284_ w285_ w286_ w287_ w288_ w289_ w290_ w291_ w292_ w293_ w294_ es W hH
        replace hH := Lib.hid hH
        obtain ⟨m, hm⟩ : ∃ m, m = L2.length := ⟨_, rfl⟩
        obtain ⟨A4, c4_, hwv, -⟩ := RRow.form hH.out.row
        rw [← hm] at hwv
        subst hwv
        have xL : ∀ d os, Calls Tryz.prog 29 #[.pointer (some ⟨y, 0, none⟩)] (grow (redrawn W d) os) fun e w'' => e = .returned (.int .i64 (m : Int)) ∧ ∃ p : Regrown, w'' = grow (redrawn W p.d) p.os := fun d os => by
          have h := lLenS _ y vy L2 (grow (redrawn W d) os) (hH.out.lam.below (below_regrown W d os))
          rw [← hm] at h
          exact Calls.regrown_of h
        have b40 : ∀ d os, (grow (redrawn W d) os).cell? ⟨g4, 0, none⟩ = some (.slice A4 m c4_) := cell_regrown (hH.out.b4.cell 0)
        replace hm := Lib.hid hm
        clear hP hq hcE hCs hzs hz1 hz2 hz3 hz4
        go_upto_region 74 with fail
        refine wp_region_quiet_below (by kernel_rfl) (by kernel_rfl) ?_
        quiet_step (fail)
        quiet_step (exact xL _ _)
        iterate 3 (quiet_step (fail))
        refine wpQuiet_nil ?_
        intro wq hw'
        have hb : Below W.heap.size W wq := by
          obtain ⟨p, rfl⟩ := hw'
          exact below_regrown W p.d p.os
        replace hH := Lib.hid (PlH.below hH.out hb)
        clear hw' hb xL b40
        go_wp2_with fail
        go_roundg (n - (i + 1))
        case measure => omega
        case rel => exact ⟨i + 1, y, vy, _, _, rfl, by go_num, by omega, Nat.le_refl _, hH⟩
      case hX =>
        intro y vy wy L2 w8_ w9_ w10_ w11_ w12_ w13_ w14_ w15_ w16_ w17_ w18_ w19_ w20_ w21_ w22_ w23_ w24_ w50_ w51_ w52_ w53_ w54_ w55_ w56_ w57_ w58_ w59_ w60_ w61_ w62_ w63_ w64_ w65_ w66_ w67_ w68_ w69_ w70_ w71_ w72_ w73_ w74_ w75_ w76_ w77_ w78_ w79_ w80_ w81_ w82_ w83_ w84_ w85_ w86_ w87_ w88_ w89_ w90_ w91_ w92_ w93_ w94_ w95_ w96_ w97_ w98_ w99_ w100_ w101_ w102_ w103_ w104_ w105_ w106_ w107_ w108_ w109_ w110_ w111_ w112_ w113_ w114_ w115_ w116_ w117_ w118_ w119_ w120_ w121_ w122_ w123_ w124_ w125_ w126_ w127_ w128_ w129_ w130_ w131_ w132_ w133_ w134_ w135_ w136_ w137_ w138_ w139_ w140_ w141_ w142_ w143_ w144_ w145_ w146_ w147_ w148_ w149_ w150_ w151_ w152_ w153_ w154_ w155_ w156_ w157_ w158_ w159_ w160_ w161_ w162_ w163_ w164_ w165_ w166_ w167_ w168_ w169_ w170_ w171_ w172_ w173_ w174_ w175_ w176_ w177_ w178_ w179_ w180_ w181_ w182_ w183_ w184_ w185_ w186_ w187_ w188_ w189_ w190_ w191_ w192_ w193_ w194_ w195_ w196_ w197_ w198_ w199_ w200_ w201_ w202_ w203_ w204_ w205_ w206_ w207_ w208_ w209_ w210_ w211_ w212_ w213_ w214_ w215_ w216_ w217_ w218_ w219_ w220_ w221_ w222_ w223_ w224_ w225_ w226_ w227_ w228_ w229_ w230_ w231_ w232_ w233_ w234_ w235_ w236_ w237_ w238_ w239_ w240_ w241_ w242_ w243_ w244_ w245_ w246_ w247_ w248_ w249_ w250_ w251_ w252_ w253_ w254_ w255_ w256_ w257_ w258_ w259_ w260_ w261_ w262_ w263_ w264_ w265_ w266_ w267_ w268_ w269_ w270_ w271_ w272_ w273_ w274_ w275_ w276_ w277_ w278_ w279_ w280_ w281_ w282_ w283_ w284_ w285_ w286_ w287_ w288_ w289_ w290_ w291_ w292_ w293_ w294_ es W hH
        replace hH := Lib.hid hH
        clear hP hq hcE hCs hzs hz1 hz2 hz3 hz4
        go_wp2_with fail
        go_roundg (n - (i + 1))
        case measure => omega
        case rel => exact ⟨i + 1, y, vy, _, _, rfl, by go_num, by omega, Nat.le_refl _, hH⟩
      case hR =>
        intro w8_ w9_ w10_ w11_ w12_ w13_ w14_ w15_ w16_ w17_ w18_ w19_ w20_ w21_ w22_ w23_ w24_ w50_ w51_ w52_ w53_ w54_ w55_ w56_ w57_ w58_ w59_ w60_ w61_ w62_ w63_ w64_ w65_ w66_ w67_ w68_ w69_ w70_ w71_ w72_ w73_ w74_ w75_ w76_ w77_ w78_ w79_ w80_ w81_ w82_ w83_ w84_ w85_ w86_ w87_ w88_ w89_ w90_ w91_ w92_ w93_ w94_ w95_ w96_ w97_ w98_ w99_ w100_ w101_ w102_ w103_ w104_ w105_ w106_ w107_ w108_ w109_ w110_ w111_ w112_ w113_ w114_ w115_ w116_ w117_ w118_ w119_ w120_ w121_ w122_ w123_ w124_ w125_ w126_ w127_ w128_ w129_ w130_ w131_ w132_ w133_ w134_ w135_ w136_ w137_ w138_ w139_ w140_ w141_ w142_ w143_ w144_ w145_ w146_ w147_ w148_ w149_ w150_ w151_ w152_ w153_ w154_ w155_ w156_ w157_ w158_ w159_ w160_ w161_ w162_ w163_ w164_ w165_ w166_ w167_ w168_ w169_ w170_ w171_ w172_ w173_ w174_ w175_ w176_ w177_ w178_ w179_ w180_ w181_ w182_ w183_ w184_ w185_ w186_ w187_ w188_ w189_ w190_ w191_ w192_ w193_ w194_ w195_ w196_ w197_ w198_ w199_ w200_ w201_ w202_ w203_ w204_ w205_ w206_ w207_ w208_ w209_ w210_ w211_ w212_ w213_ w214_ w215_ w216_ w217_ w218_ w219_ w220_ w221_ w222_ w223_ w224_ w225_ w226_ w227_ w228_ w229_ w230_ w231_ w232_ w233_ w234_ w235_ w236_ w237_ w238_ w239_ w240_ w241_ w242_ w243_ w244_ w245_ w246_ w247_ w248_ w249_ w250_ w251_ w252_ w253_ w254_ w255_ w256_ w257_ w258_ w259_ w260_ w261_ w262_ w263_ w264_ w265_ w266_ w267_ w268_ w269_ w270_ w271_ w272_ w273_ w274_ w275_ w276_ w277_ w278_ w279_ w280_ w281_ w282_ w283_ w284_ w285_ w286_ w287_ w288_ w289_ w290_ w291_ w292_ w293_ w294_ es W k2 hM hB2
        replace k2 := Lib.hid k2
        replace hM := Lib.hid hM
        replace hB2 := Lib.hid hB2
        clear hP hq hcE hCs hzs hz1 hz2 hz3 hz4
        go_wp2_with fail
        refine leaves_many (P := Tryz.prog) (fn := Tryz.f7) (v := .bool true) hM.out (fun W' a1 a2 a3 a4 a5 => ?_)
        have k9 : Blk W' g2 4 #[.bool true] := (a5 g2 (.inl (fun e => blk_notD k2.out e rfl))).trans k2.out
        have q0 := Blk.cell k9 0
        exact ⟨by simp [results, Tryz.results7, go_sem, q0], rfl, hB2.out.trans ⟨a1, a2, a3, a4, fun k hk => a5 k (.inr hk)⟩⟩
end Go.Proofs.YtoaggmegmgdgbaaGreat
