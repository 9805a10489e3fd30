/- filigreelaw22: ratio at 1/7; lives: it is true. -/
import Derived.Test.YtbddlbhanpjdnaaDoorTxt
namespace Go.Proofs.YtbddlbhanpjdnaaDoor
open Go.RowKit Go.Sort

theorem lv_E : (0 : Int) = ofE (okA false ⟨#[1]⟩ ⟨#[7]⟩) (okA false ⟨#[1]⟩ ⟨#[7]⟩) (be (sl ⟨#[7]⟩)) 2 := by kernel_rfl
theorem lv_P : ([] : List Nat) = if (0 : Int) = 0 then ofP (be (sl ⟨#[1]⟩)) (be (sl ⟨#[7]⟩)) (be (sl ⟨#[1]⟩)) (be (sl ⟨#[7]⟩)) (2 : Int).toNat else [] := by rw [if_pos rfl]; kernel_rfl
theorem lv_Q : [1, 1, 255] = if (0 : Int) = 0 then ofQ (be (sl ⟨#[1]⟩)) (be (sl ⟨#[7]⟩)) (be (sl ⟨#[1]⟩)) (be (sl ⟨#[7]⟩)) (2 : Int).toNat else [] := by rw [if_pos rfl]; kernel_rfl
theorem lv_T : (⟨#[40, 49, 32, 49, 32, 42, 41]⟩ : ByteArray) = if mayI [] [1, 1, 255] then mkS (textL [] [1, 1, 255]) else ⟨#[]⟩ := by kernel_rfl
theorem lv_C : chkE [] [1, 1, 255] = 0 := by kernel_rfl
theorem lv_A : adrR [] [1, 1, 255] 10 = ([1, 3], true) := by kernel_rfl
theorem lv_AE : (0 : Int) = rhoE [] [1, 1, 255] 10 := by kernel_rfl
theorem lv_m : mayI [] [1, 1, 255] = true := by kernel_rfl

theorem arr_one (w : World) (g x : Nat) (hg : g = w.heap.size) : Arr (w.alloc (.cells #[.int .u8 (x : Int)] 5)) g .u8 5 [x] := by
  subst hg
  exact heap_alloc_new w _

set_option maxRecDepth 100000 in
set_option maxHeartbeats 1000000 in
theorem ratio_17 (w : World) : Calls Tryd.prog 36 #[.int .u8 1, .int .u8 7] w (RetVal (.agg #[.bool false, .string ⟨#[1]⟩, .string ⟨#[7]⟩]) w) := by
  obtain ⟨W0, hW0⟩ : ∃ W0, W0 = w.alloc (.cells #[.bool false, .string ⟨#[]⟩, .string ⟨#[]⟩] 25) := ⟨_, rfl⟩
  have hs0 : W0.heap.size = w.heap.size + 1 := by rw [hW0]; simp
  have h1 : (convert 26 23 (.slice (some ⟨w.heap.size + 1, 0, none⟩) 1 1)).run Tryd.prog (W0.alloc (.cells #[.int .u8 1] 5)) = .ok (.string ⟨#[1]⟩) (W0.alloc (.cells #[.int .u8 1] 5)) := conv_str (W0.alloc (.cells #[.int .u8 1] 5)) (w.heap.size + 1) [1] 1 (arr_one W0 _ 1 hs0.symm) (by decide) 23 Tryd.underlying23
  have h2 : (convert 26 23 (.slice (some ⟨w.heap.size + 1 + 1, 0, none⟩) 1 1)).run Tryd.prog ((W0.alloc (.cells #[.int .u8 1] 5)).alloc (.cells #[.int .u8 7] 5)) = .ok (.string ⟨#[7]⟩) ((W0.alloc (.cells #[.int .u8 1] 5)).alloc (.cells #[.int .u8 7] 5)) := conv_str ((W0.alloc (.cells #[.int .u8 1] 5)).alloc (.cells #[.int .u8 7] 5)) (w.heap.size + 1 + 1) [7] 1 (arr_one _ _ 7 (by simp [hs0])) (by decide) 23 Tryd.underlying23
  rw [hW0] at h1 h2
  clear hs0 hW0
  go_enter Tryd.func36, Tryd.ntmps36
  go_wp2_with fail
  refine bodyPost_ret (v := .agg #[.bool false, .string ⟨#[1]⟩, .string ⟨#[7]⟩]) (by simp [results, Tryd.results36, go_sem]) rfl ⟨rfl, ?_⟩
  exact (((Below.refl _ w).alloc (Nat.le_refl _) _).alloc (by simp) _).alloc (by simp; omega) _

set_option maxRecDepth 100000 in
set_option maxHeartbeats 2000000 in
theorem lives_any (w : World) : Calls Tryd.prog 12 #[] w (RetVal (.bool true) w) := by
  go_enter Tryd.func12, Tryd.ntmps12
  go_wp2_with fail
  refine (ratio_17 _).mono ?_
  rintro e w1 ⟨rfl, hb1⟩
  replace hb1 := Lib.hid hb1
  go_wp2_with fail
  refine (iKnead_any false ⟨#[1]⟩ ⟨#[7]⟩ 2 _ (by decide) (by decide) 0 lv_E [] [1, 1, 255] lv_P lv_Q).mono ?_
  rintro e w2 ⟨v1, v2, rfl, g1, g2, hb⟩
  have hb2 := hb1.out.trans (hb.mono hb1.out.size)
  have hI := Itn.of_pc g1 g2 lv_m
  obtain ⟨-, B1, rfl⟩ := g1
  obtain ⟨-, B2, rfl⟩ := g2
  have hI2 := Lib.hid (hI.alloc (.cells #[.slice B1 0 0, .slice B2 3 3] 28))
  have hb3 := Lib.hid (hb2.alloc hb2.size (.cells #[.slice B1 0 0, .slice B2 3 3] 28))
  have hk := Lib.hid (Blk.new w2 28 #[.slice B1 0 0, .slice B2 3 3])
  clear hb hb1 hb2 hI
  go_upto_region 2 with fail
  replace hI2 : Hid (Itn (w2.alloc (.cells #[.slice B1 0 0, .slice B2 3 3] 28)) (.slice B1 0 0) (.slice B2 3 3) [] [1, 1, 255]) := hI2
  generalize hW : w2.alloc (.cells #[.slice B1 0 0, .slice B2 3 3] 28) = W at hI2 hb3 hk ⊢
  generalize hg : w2.heap.size = g at hk ⊢
  clear hW hg
  have a0 : W.cell? ⟨g, 0, none⟩ = some (.slice B1 0 0) := hk.out.cell 0
  have a1 : W.cell? ⟨g, 1, none⟩ = some (.slice B2 3 3) := hk.out.cell 1
  go_wp2_with fail
  refine (iText_any _ _ [] [1, 1, 255] _ hI2.out _ lv_T).mono ?_
  rintro e w3 ⟨rfl, hb⟩
  rw [lv_C]
  have hI3 := Lib.hid (hI2.out.below hb)
  have hk3 := Lib.hid (Blk.below hk.out hb)
  have hb4 := Lib.hid (hb3.out.trans (hb.mono hb3.out.size))
  clear hb hI2 hk hb3 a0 a1
  have a0 : w3.cell? ⟨g, 0, none⟩ = some (.slice B1 0 0) := hk3.out.cell 0
  have a1 : w3.cell? ⟨g, 1, none⟩ = some (.slice B2 3 3) := hk3.out.cell 1
  go_wp2_with fail
  refine (iAddress_any _ _ [] [1, 1, 255] 10 _ hI3.out 0 lv_AE [1, 3] true lv_A).mono ?_
  rintro e w4 ⟨va, rfl, ho, hb⟩
  have hb5 := Lib.hid (hb4.out.trans (hb.mono hb4.out.size))
  obtain ⟨gl, cl, rfl⟩ : ∃ gl cl, va = .slice (some ⟨gl, 0, none⟩) 2 cl := by
    rcases own_forms ho with ⟨-, h⟩ | ⟨gl, cl, h⟩
    · simp at h
    · exact ⟨gl, cl, h⟩
  obtain ⟨g', off, e, -, hc⟩ := (rd_cells (own_rdn ho)).2.2.2 (by simp)
  injection e with e
  injection e with e1 e2
  subst e1 e2
  have c0 : w4.cell? ⟨gl, 0, none⟩ = some (.int .i64 1) := by have := hc 0 1 rfl; simpa using this
  have c1 : w4.cell? ⟨gl, 1, none⟩ = some (.int .i64 3) := by have := hc 1 3 rfl; simpa using this
  clear hb hI3 hk3 hb4 a0 a1 hc ho
  have hs : ((⟨#[40, 49, 32, 49, 32, 42, 41]⟩ : ByteArray).toList == (⟨#[40, 49, 32, 49, 32, 42, 41]⟩ : ByteArray).toList) = true := by simp
  go_wp2_with fail
  go_ret
  exact ⟨rfl, hb5.out⟩

set_option maxRecDepth 100000 in
theorem itinNames_any (w : World) : Calls Tryd.prog 3 #[] w (RetVal (.bool true) w) := by
  go_enter Tryd.func3, Tryd.ntmps3
  go_wp2_with fail
  refine (lives_any _).mono ?_
  rintro e w1 ⟨rfl, hb1⟩
  replace hb1 := Lib.hid hb1
  go_wp2_with fail
  go_ret
  exact ⟨rfl, hb1.out⟩
end Go.Proofs.YtbddlbhanpjdnaaDoor
