/- lang's writer: neg, pow, pair, the four pairs. -/
import Derived.Test.YtnaadajcehfmiaaGreatDoorLwB
namespace Go.Proofs.YtnaadajcehfmiaaGreatDoor
open Go.RowKit Go.Sort Go.Maps

/-- What part does, of parts that may be (ok). -/
structure PWc (B x gk : Nat) (DK : DataW Unit) (vN vL : Value) (m : Int) (ti : Bool) (w0 : World) (pw : Nat → Nat → List Nat → List Nat) (ok : Nat → Prop) : Prop where
  call : ∀ (at_ least : Nat) (b : List Nat) (w : World), ok at_ → least ≤ 5 → WrS B x gk DK vN vL m ti b w → Below B w0 w → b.length ≤ 90000 → Calls Tryz.prog 60 #[.pointer (some ⟨x, 0, none⟩), .int .i64 (at_ : Int), .int .i64 (least : Int)] w (fun e w' => e = .returned (.tuple #[]) ∧ WrS B x gk DK vN vL m ti (pw at_ least b) w' ∧ Below B w w' ∧ TwU x w w')
  len : ∀ (at_ least : Nat) (b : List Nat), ok at_ → b.length ≤ 90000 → (pw at_ least b).length ≤ max b.length 80000
section
variable {B x gk : Nat} {vN vL : Value} {m : Int} {ti : Bool} {DK : DataW Unit} {b : List Nat} {w0 w w' : World} {pw : Nat → Nat → List Nat → List Nat} {ok : Nat → Prop}
theorem boxed (h : WrS B x gk DK vN vL m ti b w) (hb0 : Below B w0 w) (cs : Array Value) : WrS B x gk DK vN vL m ti b (w.alloc (.cells cs 52)) ∧ Blk (w.alloc (.cells cs 52)) w.heap.size 52 cs ∧ w.heap.size ≠ x ∧ Below B w (w.alloc (.cells cs 52)) ∧ TwU x w (w.alloc (.cells cs 52)) ∧ Below B w0 (w.alloc (.cells cs 52)) := by
  have hlt := h.lt
  have hb : Below B w (w.alloc (.cells cs 52)) := (Below.refl B w).alloc hlt.2 _
  exact ⟨h.alloc _, Blk.new w _ _, by omega, hb, TwU.below ((Below.refl _ w).alloc (Nat.le_refl _) _), hb0.trans hb⟩
set_option maxRecDepth 100000 in
/-- neg -/
theorem w_neg (hP : PWc B x gk DK vN vL m ti w0 pw ok) (r : RNo) (ka : Nat) (hka : r.a = (ka : Int)) (hok : ok ka) (h : WrS B x gk DK vN vL m ti b w) (hb0 : Below B w0 w) (hl : b.length ≤ 16385) : Calls Tryz.prog 53 #[.pointer (some ⟨x, 0, none⟩), .agg #[.int .u8 (r.kind : Int), .string (mkS r.text), .int .i64 r.a, .int .i64 r.b, .int .i64 r.n]] w (fun e w' => e = .returned (.tuple #[]) ∧ WrS B x gk DK vN vL m ti (pw ka 3 (b ++ [45])) w' ∧ Below B w w' ∧ TwU x w w') := by
  replace hka := Lib.hid hka
  obtain ⟨h1, kb, hx, hB, hT, h0⟩ := boxed h hb0 #[.int .u8 (r.kind : Int), .string (mkS r.text), .int .i64 r.a, .int .i64 r.b, .int .i64 r.n]
  generalize hW : w.alloc (.cells #[.int .u8 (r.kind : Int), .string (mkS r.text), .int .i64 r.a, .int .i64 r.b, .int .i64 r.n] 52) = w1 at h1 kb hB hT h0 ⊢
  generalize hg : w.heap.size = bx at kb hx ⊢
  replace hW := Lib.hid hW
  replace hg := Lib.hid hg
  replace h := Lib.hid h
  replace h1 := Lib.hid h1
  replace kb := Lib.hid kb
  replace hB := Lib.hid hB
  replace hT := Lib.hid hT
  replace h0 := Lib.hid h0
  go_enter Tryz.func53, Tryz.ntmps53
  go_upto_region 1 with fail
  rw [hW.out, hg.out]
  have cB := Lib.hid (wWriteByte h1.out 45 (by omega) (by omega))
  go_wp2_with fail
  refine cB.out.mono ?_
  rintro en w2 ⟨⟨v, rfl⟩, h2, hB2, hT2⟩
  clear cB
  replace kb := Lib.hid (hT2.blk kb.out (by decide) hx)
  replace hB := Lib.hid (hB.out.trans hB2)
  replace h0 := Lib.hid (h0.out.trans hB2)
  replace hT := Lib.hid (hT.out.trans hT2)
  replace h1 := Lib.hid h2
  clear hB2 hT2
  have q2 : w2.cell? ⟨bx, 2, none⟩ = some (.int .i64 (ka : Int)) := by rw [← hka.out]; exact kb.out.cell 2
  have cP := Lib.hid (hP.call ka 3 (b ++ [45]) w2 hok (by omega) h1.out h0.out (by simp; omega))
  go_wp2_with fail
  refine cP.out.mono ?_
  rintro en w3 ⟨rfl, h3, hB3, hT3⟩
  replace h3 := Lib.hid h3
  go_wp2_with fail
  go_end0
  exact ⟨rfl, h3.out, hB.out.trans hB3, hT.out.trans hT3⟩
set_option maxRecDepth 100000 in
set_option maxHeartbeats 2000000 in
/-- pow -/
theorem w_pow (hP : PWc B x gk DK vN vL m ti w0 pw ok) (r : RNo) (ka kn : Nat) (hka : r.a = (ka : Int)) (hkn : r.n = (kn : Int)) (hn : kn ≤ 64) (hok : ok ka) (h : WrS B x gk DK vN vL m ti b w) (hb0 : Below B w0 w) (hl : b.length ≤ 16385) : Calls Tryz.prog 54 #[.pointer (some ⟨x, 0, none⟩), .agg #[.int .u8 (r.kind : Int), .string (mkS r.text), .int .i64 r.a, .int .i64 r.b, .int .i64 r.n]] w (fun e w' => e = .returned (.tuple #[]) ∧ WrS B x gk DK vN vL m ti (pw ka 5 b ++ [94] ++ digL kn) w' ∧ Below B w w' ∧ TwU x w w') := by
  replace hka := Lib.hid hka
  replace hkn := Lib.hid hkn
  obtain ⟨h1, kb, hx, hB, hT, h0⟩ := boxed h hb0 #[.int .u8 (r.kind : Int), .string (mkS r.text), .int .i64 r.a, .int .i64 r.b, .int .i64 r.n]
  generalize hW : w.alloc (.cells #[.int .u8 (r.kind : Int), .string (mkS r.text), .int .i64 r.a, .int .i64 r.b, .int .i64 r.n] 52) = w1 at h1 kb hB hT h0 ⊢
  generalize hg : w.heap.size = bx at kb hx ⊢
  replace hW := Lib.hid hW
  replace hg := Lib.hid hg
  replace h := Lib.hid h
  replace h1 := Lib.hid h1
  replace kb := Lib.hid kb
  replace hB := Lib.hid hB
  replace hT := Lib.hid hT
  replace h0 := Lib.hid h0
  go_enter Tryz.func54, Tryz.ntmps54
  go_upto_region 1 with fail
  rw [hW.out, hg.out]
  have q2 : w1.cell? ⟨bx, 2, none⟩ = some (.int .i64 (ka : Int)) := by rw [← hka.out]; exact kb.out.cell 2
  have cP := Lib.hid (hP.call ka 5 b w1 hok (by omega) h1.out h0.out (by omega))
  have hlen := Lib.hid (hP.len ka 5 b hok (by omega))
  go_wp2_with fail
  refine cP.out.mono ?_
  rintro en w2 ⟨rfl, h2, hB2, hT2⟩
  clear cP q2
  replace kb := Lib.hid (hT2.blk kb.out (by decide) hx)
  replace hB := Lib.hid (hB.out.trans hB2)
  replace h0 := Lib.hid (h0.out.trans hB2)
  replace hT := Lib.hid (hT.out.trans hT2)
  replace h1 := Lib.hid h2
  clear hB2 hT2
  have cB := Lib.hid (wWriteByte h1.out 94 (by omega) (by have := hlen.out; omega))
  go_wp2_with fail
  refine cB.out.mono ?_
  rintro en w3 ⟨⟨v, rfl⟩, h3, hB3, hT3⟩
  clear cB
  replace kb := Lib.hid (hT3.blk kb.out (by decide) hx)
  replace hB := Lib.hid (hB.out.trans hB3)
  replace h0 := Lib.hid (h0.out.trans hB3)
  replace hT := Lib.hid (hT.out.trans hT3)
  replace h1 := Lib.hid h3
  clear hB3 hT3
  have q4 : ∀ d os, (grow (redrawn w3 d) os).cell? ⟨bx, 4, none⟩ = some (.int .i64 (kn : Int)) := cell_regrown (by rw [← hkn.out]; exact kb.out.cell 4)
  have cI : ∀ d os, Calls Tryz.prog 70 #[.int .i64 (kn : Int)] (grow (redrawn w3 d) os) fun e w'' => e = .returned (.string (mkS (digL kn))) ∧ ∃ p : Regrown, w'' = grow (redrawn w3 p.d) p.os := fun d os => (Tryz.strconv_Itoa_small kn (by omega) _).mono (fun e w'' h => ⟨by rw [h.1, dec_digL (by omega)]; rfl, ⟨d, os⟩, h.2⟩)
  go_upto_region 3 with fail
  refine wp_region_tail_below 6 (by kernel_rfl) (by kernel_rfl) ?_
  simp only [List.take_succ_cons, List.take_zero, List.drop_succ_cons, List.drop_zero]
  iterate 5 (quiet_step (fail))
  quiet_step (exact cI _ _)
  refine wpQuiet_nil ?_
  intro w4 hb4
  have hdl : (digL kn).length ≤ 2 := by unfold digL; split <;> simp
  have cS := Lib.hid (wWriteString (h1.out.below hb4) (digL kn) (byt_digL (by omega)) (by have := hlen.out; simp; omega))
  replace hB := Lib.hid (hB.out.trans (hb4.mono h1.out.lt.2))
  replace hT := Lib.hid (hT.out.trans (TwU.below hb4))
  clear hb4 q4 cI
  go_wp2_with fail
  refine cS.out.mono ?_
  rintro en w5 ⟨⟨v, rfl⟩, h5, hB5, hT5⟩
  replace h5 := Lib.hid h5
  go_wp2_with fail
  go_end0
  exact ⟨rfl, h5.out, hB.out.trans hB5, hT.out.trans hT5⟩
set_option maxRecDepth 100000 in
set_option maxHeartbeats 2000000 in
/-- pair -/
theorem w_pair (hP : PWc B x gk DK vN vL m ti w0 pw ok) (r : RNo) (ka kb' : Nat) (hka : r.a = (ka : Int)) (hkb : r.b = (kb' : Int)) (hok : ok ka) (hok2 : ok kb') (s0 sg : List Nat) (hs0 : Byt s0) (hsg : Byt sg) (hsl : sg.length ≤ 10) (hti : ti = false → sg = s0)
    (hTr : ti = true → ∀ W, Below B w0 W → Calls Tryz.prog 82 #[.string (mkS s0)] W (fun e w' => e = .returned (.string (mkS sg)) ∧ Below W.heap.size W w'))
    (l : Nat) (hl4 : l ≤ 4) (h : WrS B x gk DK vN vL m ti b w) (hb0 : Below B w0 w) (hl : b.length ≤ 16385) :
    Calls Tryz.prog 71 #[.pointer (some ⟨x, 0, none⟩), .agg #[.int .u8 (r.kind : Int), .string (mkS r.text), .int .i64 r.a, .int .i64 r.b, .int .i64 r.n], .string (mkS s0), .int .i64 (l : Int)] w (fun e w' => e = .returned (.tuple #[]) ∧ WrS B x gk DK vN vL m ti (pw kb' (l + 1) (pw ka l b ++ sg)) w' ∧ Below B w w' ∧ TwU x w w') := by
  have hlenA := Lib.hid (hP.len ka l b hok (by omega))
  replace hka := Lib.hid hka
  replace hkb := Lib.hid hkb
  obtain ⟨h1, kb, hx, hB, hT, h0⟩ := boxed h hb0 #[.int .u8 (r.kind : Int), .string (mkS r.text), .int .i64 r.a, .int .i64 r.b, .int .i64 r.n]
  generalize hW : w.alloc (.cells #[.int .u8 (r.kind : Int), .string (mkS r.text), .int .i64 r.a, .int .i64 r.b, .int .i64 r.n] 52) = w1 at h1 kb hB hT h0 ⊢
  generalize hg : w.heap.size = bx at kb hx ⊢
  replace hW := Lib.hid hW
  replace hg := Lib.hid hg
  replace h := Lib.hid h
  replace h1 := Lib.hid h1
  replace kb := Lib.hid kb
  replace hB := Lib.hid hB
  replace hT := Lib.hid hT
  replace h0 := Lib.hid h0
  go_enter Tryz.func71, Tryz.ntmps71
  go_upto_region 1 with fail
  rw [hW.out, hg.out]
  cases ti
  case false =>
    have a3 : w1.cell? ⟨x, 3, none⟩ = some (.bool false) := by
      obtain ⟨ad, vB, had, hk, -⟩ := h1.out
      exact hk.cell 3
    have hPH := Lib.hid hP
    have hwl2 : IntKind.i64.wrap ((l : Int) + 1) = (l : Int) + 1 := by rw [IntKind.wrap_i64]; omega
    clear hP
    obtain rfl := hti rfl
    clear hTr hti
    have q2 : w1.cell? ⟨bx, 2, none⟩ = some (.int .i64 (ka : Int)) := by rw [← hka.out]; exact kb.out.cell 2
    have cP := Lib.hid (hPH.out.call ka l b w1 hok (by omega) h1.out h0.out (by omega))
    go_wp2_with fail
    refine cP.out.mono ?_
    rintro en w3 ⟨rfl, h3, hB3, hT3⟩
    clear cP q2
    replace kb := Lib.hid (hT3.blk kb.out (by decide) hx)
    replace hB := Lib.hid (hB.out.trans hB3)
    replace h0 := Lib.hid (h0.out.trans hB3)
    replace hT := Lib.hid (hT.out.trans hT3)
    replace h1 := Lib.hid h3
    clear hB3 hT3
    have cS := Lib.hid (wWriteString h1.out sg hsg (by have := hlenA.out; omega))
    go_wp2_with fail
    refine cS.out.mono ?_
    rintro en w4 ⟨⟨v, rfl⟩, h4, hB4, hT4⟩
    clear cS
    replace kb := Lib.hid (hT4.blk kb.out (by decide) hx)
    replace hB := Lib.hid (hB.out.trans hB4)
    replace h0 := Lib.hid (h0.out.trans hB4)
    replace hT := Lib.hid (hT.out.trans hT4)
    replace h1 := Lib.hid h4
    clear hB4 hT4
    have q3 : w4.cell? ⟨bx, 3, none⟩ = some (.int .i64 (kb' : Int)) := by rw [← hkb.out]; exact kb.out.cell 3
    have cP := hPH.out.call kb' (l + 1) (pw ka l b ++ sg) w4 hok2 (by omega) h1.out h0.out (by have := hlenA.out; rw [List.length_append]; omega)
    have el : ((l + 1 : Nat) : Int) = (l : Int) + 1 := by omega
    rw [el] at cP
    replace cP := Lib.hid cP
    clear el
    go_wp2_with fail
    refine cP.out.mono ?_
    rintro en w5 ⟨rfl, h5, hB5, hT5⟩
    replace h5 := Lib.hid h5
    go_wp2_with fail
    go_end0
    exact ⟨rfl, h5.out, hB.out.trans hB5, hT.out.trans hT5⟩
  case true =>
    have a3 : w1.cell? ⟨x, 3, none⟩ = some (.bool true) := by
      obtain ⟨ad, vB, had, hk, -⟩ := h1.out
      exact hk.cell 3
    have hPH := Lib.hid hP
    have hwl2 : IntKind.i64.wrap ((l : Int) + 1) = (l : Int) + 1 := by rw [IntKind.wrap_i64]; omega
    clear hP
    have cT := Lib.hid (hTr rfl w1 h0.out)
    clear hTr hti
    go_wp2_with fail
    refine cT.out.mono ?_
    rintro en w2 ⟨rfl, hb2⟩
    have hB2 : Below B w1 w2 := hb2.mono h1.out.lt.2
    have hT2 : TwU x w1 w2 := TwU.below hb2
    have h2 := h1.out.below hb2
    clear cT hb2 a3
    replace kb := Lib.hid (hT2.blk kb.out (by decide) hx)
    replace hB := Lib.hid (hB.out.trans hB2)
    replace h0 := Lib.hid (h0.out.trans hB2)
    replace hT := Lib.hid (hT.out.trans hT2)
    replace h1 := Lib.hid h2
    clear hB2 hT2
    have q2 : w2.cell? ⟨bx, 2, none⟩ = some (.int .i64 (ka : Int)) := by rw [← hka.out]; exact kb.out.cell 2
    have cP := Lib.hid (hPH.out.call ka l b w2 hok (by omega) h1.out h0.out (by omega))
    go_wp2_with fail
    refine cP.out.mono ?_
    rintro en w3 ⟨rfl, h3, hB3, hT3⟩
    clear cP q2
    replace kb := Lib.hid (hT3.blk kb.out (by decide) hx)
    replace hB := Lib.hid (hB.out.trans hB3)
    replace h0 := Lib.hid (h0.out.trans hB3)
    replace hT := Lib.hid (hT.out.trans hT3)
    replace h1 := Lib.hid h3
    clear hB3 hT3
    have cS := Lib.hid (wWriteString h1.out sg hsg (by have := hlenA.out; omega))
    go_wp2_with fail
    refine cS.out.mono ?_
    rintro en w4 ⟨⟨v, rfl⟩, h4, hB4, hT4⟩
    clear cS
    replace kb := Lib.hid (hT4.blk kb.out (by decide) hx)
    replace hB := Lib.hid (hB.out.trans hB4)
    replace h0 := Lib.hid (h0.out.trans hB4)
    replace hT := Lib.hid (hT.out.trans hT4)
    replace h1 := Lib.hid h4
    clear hB4 hT4
    have q3 : w4.cell? ⟨bx, 3, none⟩ = some (.int .i64 (kb' : Int)) := by rw [← hkb.out]; exact kb.out.cell 3
    have cP := hPH.out.call kb' (l + 1) (pw ka l b ++ sg) w4 hok2 (by omega) h1.out h0.out (by have := hlenA.out; rw [List.length_append]; omega)
    have el : ((l + 1 : Nat) : Int) = (l : Int) + 1 := by omega
    rw [el] at cP
    replace cP := Lib.hid cP
    clear el
    go_wp2_with fail
    refine cP.out.mono ?_
    rintro en w5 ⟨rfl, h5, hB5, hT5⟩
    replace h5 := Lib.hid h5
    go_wp2_with fail
    go_end0
    exact ⟨rfl, h5.out, hB.out.trans hB5, hT.out.trans hT5⟩
set_option maxRecDepth 100000 in
/-- add -/
theorem w_add (hP : PWc B x gk DK vN vL m ti w0 pw ok) (r : RNo) (ka kb' : Nat) (hka : r.a = (ka : Int)) (hkb : r.b = (kb' : Int)) (hok : ok ka) (hok2 : ok kb') (hTr : ti = true → ∀ W, Below B w0 W → Calls Tryz.prog 82 #[.string (mkS [32, 43, 32])] W (fun e w' => e = .returned (.string (mkS (sgnW true 6))) ∧ Below W.heap.size W w'))
    (h : WrS B x gk DK vN vL m ti b w) (hb0 : Below B w0 w) (hl : b.length ≤ 16385) : Calls Tryz.prog 55 #[.pointer (some ⟨x, 0, none⟩), .agg #[.int .u8 (r.kind : Int), .string (mkS r.text), .int .i64 r.a, .int .i64 r.b, .int .i64 r.n]] w (fun e w' => e = .returned (.tuple #[]) ∧ WrS B x gk DK vN vL m ti (pw kb' (1 + 1) (pw ka 1 b ++ sgnW ti 6)) w' ∧ Below B w w' ∧ TwU x w w') := by
  have hby : Byt (sgnW ti 6) := by cases ti <;> (unfold Byt; decide)
  have hb3 : (sgnW ti 6).length ≤ 10 := by cases ti <;> decide
  replace hka := Lib.hid hka
  replace hkb := Lib.hid hkb
  obtain ⟨h1, kb, hx, hB, hT, h0⟩ := boxed h hb0 #[.int .u8 (r.kind : Int), .string (mkS r.text), .int .i64 r.a, .int .i64 r.b, .int .i64 r.n]
  generalize hW : w.alloc (.cells #[.int .u8 (r.kind : Int), .string (mkS r.text), .int .i64 r.a, .int .i64 r.b, .int .i64 r.n] 52) = w1 at h1 kb hB hT h0 ⊢
  generalize hg : w.heap.size = bx at kb hx ⊢
  replace hW := Lib.hid hW
  replace hg := Lib.hid hg
  replace h := Lib.hid h
  replace h1 := Lib.hid h1
  replace kb := Lib.hid kb
  replace hB := Lib.hid hB
  replace hT := Lib.hid hT
  replace h0 := Lib.hid h0
  go_enter Tryz.func55, Tryz.ntmps55
  go_upto_region 1 with fail
  rw [hW.out, hg.out]
  have q0 : w1.cell? ⟨bx, 0, none⟩ = some (.int .u8 (r.kind : Int)) := kb.out.cell 0
  have q1 : w1.cell? ⟨bx, 1, none⟩ = some (.string (mkS r.text)) := kb.out.cell 1
  have q2 : w1.cell? ⟨bx, 2, none⟩ = some (.int .i64 r.a) := kb.out.cell 2
  have q3 : w1.cell? ⟨bx, 3, none⟩ = some (.int .i64 r.b) := kb.out.cell 3
  have q4 : w1.cell? ⟨bx, 4, none⟩ = some (.int .i64 r.n) := kb.out.cell 4
  have cP := w_pair hP r ka kb' hka.out hkb.out hok hok2 [32, 43, 32] (sgnW ti 6) (by unfold Byt; decide) hby hb3 (fun e => by rw [e]; rfl) (fun e => by rw [e]; rw [e] at hTr; exact hTr rfl) 1 (by omega) h1.out h0.out hl
  have es : mkS [32, 43, 32] = (⟨#[32, 43, 32]⟩ : ByteArray) := rfl
  rw [es] at cP
  replace cP := Lib.hid cP
  clear es hTr
  go_wp2_with fail
  refine cP.out.mono ?_
  rintro en w5 ⟨rfl, h5, hB5, hT5⟩
  replace h5 := Lib.hid h5
  go_wp2_with fail
  go_end0
  exact ⟨rfl, h5.out, hB.out.trans hB5, hT.out.trans hT5⟩
set_option maxRecDepth 100000 in
/-- sub -/
theorem w_sub (hP : PWc B x gk DK vN vL m ti w0 pw ok) (r : RNo) (ka kb' : Nat) (hka : r.a = (ka : Int)) (hkb : r.b = (kb' : Int)) (hok : ok ka) (hok2 : ok kb') (hTr : ti = true → ∀ W, Below B w0 W → Calls Tryz.prog 82 #[.string (mkS [32, 45, 32])] W (fun e w' => e = .returned (.string (mkS (sgnW true 7))) ∧ Below W.heap.size W w'))
    (h : WrS B x gk DK vN vL m ti b w) (hb0 : Below B w0 w) (hl : b.length ≤ 16385) : Calls Tryz.prog 56 #[.pointer (some ⟨x, 0, none⟩), .agg #[.int .u8 (r.kind : Int), .string (mkS r.text), .int .i64 r.a, .int .i64 r.b, .int .i64 r.n]] w (fun e w' => e = .returned (.tuple #[]) ∧ WrS B x gk DK vN vL m ti (pw kb' (1 + 1) (pw ka 1 b ++ sgnW ti 7)) w' ∧ Below B w w' ∧ TwU x w w') := by
  have hby : Byt (sgnW ti 7) := by cases ti <;> (unfold Byt; decide)
  have hb3 : (sgnW ti 7).length ≤ 10 := by cases ti <;> decide
  replace hka := Lib.hid hka
  replace hkb := Lib.hid hkb
  obtain ⟨h1, kb, hx, hB, hT, h0⟩ := boxed h hb0 #[.int .u8 (r.kind : Int), .string (mkS r.text), .int .i64 r.a, .int .i64 r.b, .int .i64 r.n]
  generalize hW : w.alloc (.cells #[.int .u8 (r.kind : Int), .string (mkS r.text), .int .i64 r.a, .int .i64 r.b, .int .i64 r.n] 52) = w1 at h1 kb hB hT h0 ⊢
  generalize hg : w.heap.size = bx at kb hx ⊢
  replace hW := Lib.hid hW
  replace hg := Lib.hid hg
  replace h := Lib.hid h
  replace h1 := Lib.hid h1
  replace kb := Lib.hid kb
  replace hB := Lib.hid hB
  replace hT := Lib.hid hT
  replace h0 := Lib.hid h0
  go_enter Tryz.func56, Tryz.ntmps56
  go_upto_region 1 with fail
  rw [hW.out, hg.out]
  have q0 : w1.cell? ⟨bx, 0, none⟩ = some (.int .u8 (r.kind : Int)) := kb.out.cell 0
  have q1 : w1.cell? ⟨bx, 1, none⟩ = some (.string (mkS r.text)) := kb.out.cell 1
  have q2 : w1.cell? ⟨bx, 2, none⟩ = some (.int .i64 r.a) := kb.out.cell 2
  have q3 : w1.cell? ⟨bx, 3, none⟩ = some (.int .i64 r.b) := kb.out.cell 3
  have q4 : w1.cell? ⟨bx, 4, none⟩ = some (.int .i64 r.n) := kb.out.cell 4
  have cP := w_pair hP r ka kb' hka.out hkb.out hok hok2 [32, 45, 32] (sgnW ti 7) (by unfold Byt; decide) hby hb3 (fun e => by rw [e]; rfl) (fun e => by rw [e]; rw [e] at hTr; exact hTr rfl) 1 (by omega) h1.out h0.out hl
  have es : mkS [32, 45, 32] = (⟨#[32, 45, 32]⟩ : ByteArray) := rfl
  rw [es] at cP
  replace cP := Lib.hid cP
  clear es hTr
  go_wp2_with fail
  refine cP.out.mono ?_
  rintro en w5 ⟨rfl, h5, hB5, hT5⟩
  replace h5 := Lib.hid h5
  go_wp2_with fail
  go_end0
  exact ⟨rfl, h5.out, hB.out.trans hB5, hT.out.trans hT5⟩
set_option maxRecDepth 100000 in
/-- mul -/
theorem w_mul (hP : PWc B x gk DK vN vL m ti w0 pw ok) (r : RNo) (ka kb' : Nat) (hka : r.a = (ka : Int)) (hkb : r.b = (kb' : Int)) (hok : ok ka) (hok2 : ok kb') (hTr : ti = true → ∀ W, Below B w0 W → Calls Tryz.prog 82 #[.string (mkS [42])] W (fun e w' => e = .returned (.string (mkS (sgnW true 8))) ∧ Below W.heap.size W w'))
    (h : WrS B x gk DK vN vL m ti b w) (hb0 : Below B w0 w) (hl : b.length ≤ 16385) : Calls Tryz.prog 57 #[.pointer (some ⟨x, 0, none⟩), .agg #[.int .u8 (r.kind : Int), .string (mkS r.text), .int .i64 r.a, .int .i64 r.b, .int .i64 r.n]] w (fun e w' => e = .returned (.tuple #[]) ∧ WrS B x gk DK vN vL m ti (pw kb' (2 + 1) (pw ka 2 b ++ sgnW ti 8)) w' ∧ Below B w w' ∧ TwU x w w') := by
  have hby : Byt (sgnW ti 8) := by cases ti <;> (unfold Byt; decide)
  have hb3 : (sgnW ti 8).length ≤ 10 := by cases ti <;> decide
  replace hka := Lib.hid hka
  replace hkb := Lib.hid hkb
  obtain ⟨h1, kb, hx, hB, hT, h0⟩ := boxed h hb0 #[.int .u8 (r.kind : Int), .string (mkS r.text), .int .i64 r.a, .int .i64 r.b, .int .i64 r.n]
  generalize hW : w.alloc (.cells #[.int .u8 (r.kind : Int), .string (mkS r.text), .int .i64 r.a, .int .i64 r.b, .int .i64 r.n] 52) = w1 at h1 kb hB hT h0 ⊢
  generalize hg : w.heap.size = bx at kb hx ⊢
  replace hW := Lib.hid hW
  replace hg := Lib.hid hg
  replace h := Lib.hid h
  replace h1 := Lib.hid h1
  replace kb := Lib.hid kb
  replace hB := Lib.hid hB
  replace hT := Lib.hid hT
  replace h0 := Lib.hid h0
  go_enter Tryz.func57, Tryz.ntmps57
  go_upto_region 1 with fail
  rw [hW.out, hg.out]
  have q0 : w1.cell? ⟨bx, 0, none⟩ = some (.int .u8 (r.kind : Int)) := kb.out.cell 0
  have q1 : w1.cell? ⟨bx, 1, none⟩ = some (.string (mkS r.text)) := kb.out.cell 1
  have q2 : w1.cell? ⟨bx, 2, none⟩ = some (.int .i64 r.a) := kb.out.cell 2
  have q3 : w1.cell? ⟨bx, 3, none⟩ = some (.int .i64 r.b) := kb.out.cell 3
  have q4 : w1.cell? ⟨bx, 4, none⟩ = some (.int .i64 r.n) := kb.out.cell 4
  have cP := w_pair hP r ka kb' hka.out hkb.out hok hok2 [42] (sgnW ti 8) (by unfold Byt; decide) hby hb3 (fun e => by rw [e]; rfl) (fun e => by rw [e]; rw [e] at hTr; exact hTr rfl) 2 (by omega) h1.out h0.out hl
  have es : mkS [42] = (⟨#[42]⟩ : ByteArray) := rfl
  rw [es] at cP
  replace cP := Lib.hid cP
  clear es hTr
  go_wp2_with fail
  refine cP.out.mono ?_
  rintro en w5 ⟨rfl, h5, hB5, hT5⟩
  replace h5 := Lib.hid h5
  go_wp2_with fail
  go_end0
  exact ⟨rfl, h5.out, hB.out.trans hB5, hT.out.trans hT5⟩
set_option maxRecDepth 100000 in
/-- quo -/
theorem w_quo (hP : PWc B x gk DK vN vL m ti w0 pw ok) (r : RNo) (ka kb' : Nat) (hka : r.a = (ka : Int)) (hkb : r.b = (kb' : Int)) (hok : ok ka) (hok2 : ok kb') (hTr : ti = true → ∀ W, Below B w0 W → Calls Tryz.prog 82 #[.string (mkS [47])] W (fun e w' => e = .returned (.string (mkS (sgnW true 9))) ∧ Below W.heap.size W w'))
    (h : WrS B x gk DK vN vL m ti b w) (hb0 : Below B w0 w) (hl : b.length ≤ 16385) : Calls Tryz.prog 58 #[.pointer (some ⟨x, 0, none⟩), .agg #[.int .u8 (r.kind : Int), .string (mkS r.text), .int .i64 r.a, .int .i64 r.b, .int .i64 r.n]] w (fun e w' => e = .returned (.tuple #[]) ∧ WrS B x gk DK vN vL m ti (pw kb' (2 + 1) (pw ka 2 b ++ sgnW ti 9)) w' ∧ Below B w w' ∧ TwU x w w') := by
  have hby : Byt (sgnW ti 9) := by cases ti <;> (unfold Byt; decide)
  have hb3 : (sgnW ti 9).length ≤ 10 := by cases ti <;> decide
  replace hka := Lib.hid hka
  replace hkb := Lib.hid hkb
  obtain ⟨h1, kb, hx, hB, hT, h0⟩ := boxed h hb0 #[.int .u8 (r.kind : Int), .string (mkS r.text), .int .i64 r.a, .int .i64 r.b, .int .i64 r.n]
  generalize hW : w.alloc (.cells #[.int .u8 (r.kind : Int), .string (mkS r.text), .int .i64 r.a, .int .i64 r.b, .int .i64 r.n] 52) = w1 at h1 kb hB hT h0 ⊢
  generalize hg : w.heap.size = bx at kb hx ⊢
  replace hW := Lib.hid hW
  replace hg := Lib.hid hg
  replace h := Lib.hid h
  replace h1 := Lib.hid h1
  replace kb := Lib.hid kb
  replace hB := Lib.hid hB
  replace hT := Lib.hid hT
  replace h0 := Lib.hid h0
  go_enter Tryz.func58, Tryz.ntmps58
  go_upto_region 1 with fail
  rw [hW.out, hg.out]
  have q0 : w1.cell? ⟨bx, 0, none⟩ = some (.int .u8 (r.kind : Int)) := kb.out.cell 0
  have q1 : w1.cell? ⟨bx, 1, none⟩ = some (.string (mkS r.text)) := kb.out.cell 1
  have q2 : w1.cell? ⟨bx, 2, none⟩ = some (.int .i64 r.a) := kb.out.cell 2
  have q3 : w1.cell? ⟨bx, 3, none⟩ = some (.int .i64 r.b) := kb.out.cell 3
  have q4 : w1.cell? ⟨bx, 4, none⟩ = some (.int .i64 r.n) := kb.out.cell 4
  have cP := w_pair hP r ka kb' hka.out hkb.out hok hok2 [47] (sgnW ti 9) (by unfold Byt; decide) hby hb3 (fun e => by rw [e]; rfl) (fun e => by rw [e]; rw [e] at hTr; exact hTr rfl) 2 (by omega) h1.out h0.out hl
  have es : mkS [47] = (⟨#[47]⟩ : ByteArray) := rfl
  rw [es] at cP
  replace cP := Lib.hid cP
  clear es hTr
  go_wp2_with fail
  refine cP.out.mono ?_
  rintro en w5 ⟨rfl, h5, hB5, hT5⟩
  replace h5 := Lib.hid h5
  go_wp2_with fail
  go_end0
  exact ⟨rfl, h5.out, hB.out.trans hB5, hT.out.trans hT5⟩
end
end Go.Proofs.YtnaadajcehfmiaaGreatDoor
