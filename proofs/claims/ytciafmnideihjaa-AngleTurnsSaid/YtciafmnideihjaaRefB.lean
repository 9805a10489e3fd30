/- The document's answer: filigreeref21.Of. -/
import Derived.Test.YtciafmnideihjaaRefA
import Derived.Deep.CutBlock
namespace Go.Proofs.Ytciafmnideihjaa
open Go.RowKit

theorem okA_ref (neg : Bool) (num den : ByteArray) :
    okA neg num den = (smallB num && smallB den && !neg && decide (1 ≤ be (sl den)) && decide (be (sl den) ≤ 2147483647) && decide (be (sl num) < be (sl den)) && decide (Nat.gcd (be (sl num)) (be (sl den)) = 1)) := by
  rw [Bool.eq_iff_iff]
  simp only [okA, ratioMay, smallB, Bool.and_eq_true, Bool.or_eq_true, decide_eq_true_eq, Bool.not_eq_true']
  constructor
  · rintro ⟨⟨⟨⟨⟨⟨⟨⟨⟨h1, h2⟩, h3⟩, h4⟩, -⟩, h5⟩, -, h6⟩, -, h7⟩, h8⟩, h9⟩
    exact ⟨⟨⟨⟨⟨⟨⟨h1, h6⟩, h2, h7⟩, h5⟩, h3⟩, h9⟩, h8⟩, h4⟩
  · rintro ⟨⟨⟨⟨⟨⟨⟨h1, h6⟩, h2, h7⟩, h5⟩, h3⟩, h9⟩, h8⟩, h4⟩
    exact ⟨⟨⟨⟨⟨⟨⟨⟨⟨h1, h2⟩, h3⟩, h4⟩, Or.inl h5⟩, h5⟩, h1, h6⟩, h2, h7⟩, h8⟩, h9⟩

set_option maxRecDepth 100000 in
set_option maxHeartbeats 2000000 in
/-- filigreeref21.Of -/
theorem rof_any (neg : Bool) (num den : ByteArray) (w : World) (z1 : num.size ≤ 9223372036854775807) (z2 : den.size ≤ 9223372036854775807) :
    Calls Try.prog 18 #[.agg #[.bool neg, .string num, .string den]] w (RetVal (smallV neg num den) w) := by
  have hq := okA_ref neg num den
  have hv0 : okA neg num den = false → smallV neg num den = .tuple #[.agg #[.int .u64 0, .int .u64 0], .bool false] := smallV_no
  have hv1 : okA neg num den = true → smallV neg num den = .tuple #[.agg #[.int .u64 ((be (sl num) : Nat) : Int), .int .u64 ((be (sl den) : Nat) : Int)], .bool true] := smallV_yes
  obtain ⟨b1, h1⟩ : ∃ b, b = smallB num := ⟨_, rfl⟩
  obtain ⟨b2, h2⟩ : ∃ b, b = smallB den := ⟨_, rfl⟩
  obtain ⟨X, hX⟩ : ∃ X, X = (if b1 then be (sl num) else 0) := ⟨_, rfl⟩
  obtain ⟨Y, hY⟩ : ∃ Y, Y = (if b2 then be (sl den) else 0) := ⟨_, rfl⟩
  have hXs : X < 18446744073709551616 := by
    rw [hX]; split
    · exact be_small (by rw [← h1]; assumption)
    · omega
  have hYs : Y < 18446744073709551616 := by
    rw [hY]; split
    · exact be_small (by rw [← h2]; assumption)
    · omega
  have c1 : Calls Try.prog 53 #[.string num] ((w.alloc (.cells #[.bool neg, .string num, .string den] 24)).alloc (.cells #[.int .u64 0, .int .u64 0] 34)) fun e w' => e = .returned (.tuple #[.int .u64 (X : Int), .bool b1]) ∧ ((w.alloc (.cells #[.bool neg, .string num, .string den] 24)).alloc (.cells #[.int .u64 0, .int .u64 0] 34)) = w' := by
    rw [hX, h1]; exact rsmall_any num _ z1
  have c2 : Calls Try.prog 53 #[.string den] ((w.alloc (.cells #[.bool neg, .string num, .string den] 24)).alloc (.cells #[.int .u64 0, .int .u64 0] 34)) fun e w' => e = .returned (.tuple #[.int .u64 (Y : Int), .bool b2]) ∧ ((w.alloc (.cells #[.bool neg, .string num, .string den] 24)).alloc (.cells #[.int .u64 0, .int .u64 0] 34)) = w' := by
    rw [hY, h2]; exact rsmall_any den _ z2
  have hBW : Below w.heap.size w ((w.alloc (.cells #[.bool neg, .string num, .string den] 24)).alloc (.cells #[.int .u64 0, .int .u64 0] 34)) := ((Below.refl _ w).alloc (Nat.le_refl _) _).alloc (by simp) _
  rw [← h1, ← h2] at hq
  have hsplit : (b1 = false ∨ b1 = true ∧ b2 = false ∨ b1 = true ∧ b2 = true ∧ neg = true ∨ b1 = true ∧ b2 = true ∧ neg = false ∧ Y < 1 ∨ b1 = true ∧ b2 = true ∧ neg = false ∧ 1 ≤ Y ∧ 2147483647 < Y ∨ b1 = true ∧ b2 = true ∧ neg = false ∧ 1 ≤ Y ∧ Y ≤ 2147483647 ∧ Y ≤ X) ∨
      b1 = true ∧ b2 = true ∧ neg = false ∧ 1 ≤ Y ∧ Y ≤ 2147483647 ∧ X < Y := by
    cases b1 <;> cases b2 <;> cases neg <;> simp <;> omega
  have hg : b1 = true ∧ b2 = true ∧ neg = false ∧ 1 ≤ Y ∧ Y ≤ 2147483647 ∧ X < Y → (∀ G, G = Nat.gcd X Y → okA neg num den = decide (G = 1)) ∧ X = be (sl num) ∧ Y = be (sl den) := by
    rintro ⟨e1, e2, e3, e4, e5, e6⟩
    rw [e1] at hX
    rw [e2] at hY
    simp only [if_true] at hX hY
    refine ⟨fun G hG => ?_, hX, hY⟩
    rw [hq, e1, e2, e3, ← hX, ← hY, hG]
    simp [e4, e5, e6]
  have hn : (b1 = false ∨ b1 = true ∧ b2 = false ∨ b1 = true ∧ b2 = true ∧ neg = true ∨ b1 = true ∧ b2 = true ∧ neg = false ∧ Y < 1 ∨ b1 = true ∧ b2 = true ∧ neg = false ∧ 1 ≤ Y ∧ 2147483647 < Y ∨ b1 = true ∧ b2 = true ∧ neg = false ∧ 1 ≤ Y ∧ Y ≤ 2147483647 ∧ Y ≤ X) → okA neg num den = false := by
    intro h
    rw [hq]
    rcases h with h | ⟨h, h'⟩ | ⟨h, h', h''⟩ | ⟨h, h', h'', h3⟩ | ⟨h, h', h'', h3, h4⟩ | ⟨h, h', h'', h3, h4, h5⟩
    · rw [h]; rfl
    · rw [h, h']; rfl
    · rw [h, h', h'']; rfl
    · rw [h'] at hY; simp only [if_true] at hY
      rw [← hY]; have : ¬ 1 ≤ Y := by omega
      simp [this]
    · rw [h'] at hY; simp only [if_true] at hY
      rw [← hY]; have : ¬ Y ≤ 2147483647 := by omega
      simp [this]
    · rw [h'] at hY; simp only [if_true] at hY
      rw [h] at hX; simp only [if_true] at hX
      rw [← hY, ← hX]; have : ¬ X < Y := by omega
      simp [this]
  replace hv0 := Lib.hid hv0
  replace hv1 := Lib.hid hv1
  replace hg := Lib.hid hg
  replace hn := Lib.hid hn
  replace hBW := Lib.hid hBW
  clear h1 h2 hX hY hq
  rcases hsplit with hs | hs
  · have hv := Lib.hid (hv0.out (hn.out hs))
    clear hn hg hv0 hv1
    go_enter Try.func18, Try.ntmps18
    go_wp2_with fail
    refine c1.mono ?_
    rintro e w1 ⟨rfl, rfl⟩
    go_wp2_with fail
    refine c2.mono ?_
    rintro e w1 ⟨rfl, rfl⟩
    clear c1 c2
    rcases hs with rfl | ⟨rfl, rfl⟩ | ⟨rfl, rfl, rfl⟩ | ⟨rfl, rfl, rfl, h3⟩ | ⟨rfl, rfl, rfl, h3, h4⟩ | ⟨rfl, rfl, rfl, h3, h4, h5⟩
    · go_wp2_with fail
      refine bodyPost_ret (v := .tuple #[.agg #[.int .u64 0, .int .u64 0], .bool false]) (by simp [results, Try.results18, go_sem]) rfl ⟨by rw [hv.out], ?_⟩
      repeat (first | exact Below.refl _ _ | apply Below.drew | refine Below.setCell ?_ (by simp) _ | refine Below.alloc ?_ (by simp) _)
    · go_wp2_with fail
      refine bodyPost_ret (v := .tuple #[.agg #[.int .u64 0, .int .u64 0], .bool false]) (by simp [results, Try.results18, go_sem]) rfl ⟨by rw [hv.out], ?_⟩
      repeat (first | exact Below.refl _ _ | apply Below.drew | refine Below.setCell ?_ (by simp) _ | refine Below.alloc ?_ (by simp) _)
    · go_wp2_with fail
      refine bodyPost_ret (v := .tuple #[.agg #[.int .u64 0, .int .u64 0], .bool false]) (by simp [results, Try.results18, go_sem]) rfl ⟨by rw [hv.out], ?_⟩
      repeat (first | exact Below.refl _ _ | apply Below.drew | refine Below.setCell ?_ (by simp) _ | refine Below.alloc ?_ (by simp) _)
    · have i3 : decide (1 ≤ (Y : Int)) = false := by simp; omega
      go_wp2_with fail
      refine bodyPost_ret (v := .tuple #[.agg #[.int .u64 0, .int .u64 0], .bool false]) (by simp [results, Try.results18, go_sem]) rfl ⟨by rw [hv.out], ?_⟩
      repeat (first | exact Below.refl _ _ | apply Below.drew | refine Below.setCell ?_ (by simp) _ | refine Below.alloc ?_ (by simp) _)
    · have i3 : decide (1 ≤ (Y : Int)) = true := by simp; omega
      have i4 : decide ((Y : Int) ≤ 2147483647) = false := by simp; omega
      go_wp2_with fail
      refine bodyPost_ret (v := .tuple #[.agg #[.int .u64 0, .int .u64 0], .bool false]) (by simp [results, Try.results18, go_sem]) rfl ⟨by rw [hv.out], ?_⟩
      repeat (first | exact Below.refl _ _ | apply Below.drew | refine Below.setCell ?_ (by simp) _ | refine Below.alloc ?_ (by simp) _)
    · have i3 : decide (1 ≤ (Y : Int)) = true := by simp; omega
      have i4 : decide ((Y : Int) ≤ 2147483647) = true := by simp; omega
      have i5 : decide ((X : Int) < (Y : Int)) = false := by simp; omega
      go_wp2_with fail
      refine bodyPost_ret (v := .tuple #[.agg #[.int .u64 0, .int .u64 0], .bool false]) (by simp [results, Try.results18, go_sem]) rfl ⟨by rw [hv.out], ?_⟩
      repeat (first | exact Below.refl _ _ | apply Below.drew | refine Below.setCell ?_ (by simp) _ | refine Below.alloc ?_ (by simp) _)
  · obtain ⟨eo, eX, eY⟩ := hg.out hs
    obtain ⟨rfl, rfl, rfl, h3, h4, h5⟩ := hs
    obtain ⟨G, hG⟩ : ∃ G, G = Nat.gcd X Y := ⟨_, rfl⟩
    replace eo := eo G hG
    have i3 : decide (1 ≤ (Y : Int)) = true := by simp; omega
    have i4 : decide ((Y : Int) ≤ 2147483647) = true := by simp; omega
    have i5 : decide ((X : Int) < (Y : Int)) = true := by simp; omega
    have kb := (Blk.new w 24 #[.bool false, .string num, .string den]).alloc (.cells #[.int .u64 0, .int .u64 0] 34)
    have ka := Blk.new (w.alloc (.cells #[.bool false, .string num, .string den] 24)) 34 #[.int .u64 0, .int .u64 0]
    rw [show (w.alloc (.cells #[.bool false, .string num, .string den] 24)).heap.size = w.heap.size + 1 by simp] at ka
    replace ka := Lib.hid ka
    by_cases hG1 : G = 1
    · have hv := hv1.out (by rw [eo]; simp [hG1])
      rw [← eX, ← eY] at hv
      replace hv := Lib.hid hv
      replace hG := Lib.hid hG
      have hGi : (G : Int) = 1 := by omega
      clear hv0 hv1 eo eX eY kb hg hn
      go_enter Try.func18, Try.ntmps18
      go_wp2_with fail
      refine c1.mono ?_
      rintro e w1 ⟨rfl, rfl⟩
      go_wp2_with fail
      refine c2.mono ?_
      rintro e w1 ⟨rfl, rfl⟩
      clear c1 c2
      go_wp2_with fail
      refine (rgcd_any X Y _ hXs hYs).mono ?_
      rintro e w2 ⟨rfl, nd, rfl⟩
      rw [← hG.out, hG1]
      go_wp2_with fail
      refine bodyPost_ret (v := .tuple #[.agg #[.int .u64 (X : Int), .int .u64 (Y : Int)], .bool true]) (by simp [results, Try.results18, go_sem]) rfl ⟨by rw [hv.out], ?_⟩
      repeat (first | exact Below.refl _ _ | apply Below.drew | refine below_drewN ?_ _ | refine Below.setCell ?_ (by simp) _ | refine Below.alloc ?_ (by simp) _)
    · have hv := Lib.hid (hv0.out (by rw [eo]; simp [hG1]))
      replace hG := Lib.hid hG
      have hGi : ((G : Int) == 1) = false := by simp; omega
      clear hv0 hv1 eo eX eY kb hg hn
      go_enter Try.func18, Try.ntmps18
      go_wp2_with fail
      refine c1.mono ?_
      rintro e w1 ⟨rfl, rfl⟩
      go_wp2_with fail
      refine c2.mono ?_
      rintro e w1 ⟨rfl, rfl⟩
      clear c1 c2
      go_wp2_with fail
      refine (rgcd_any X Y _ hXs hYs).mono ?_
      rintro e w2 ⟨rfl, nd, rfl⟩
      rw [← hG.out]
      go_wp2_with fail
      refine bodyPost_ret (v := .tuple #[.agg #[.int .u64 0, .int .u64 0], .bool false]) (by simp [results, Try.results18, go_sem]) rfl ⟨by rw [hv.out], ?_⟩
      repeat (first | exact Below.refl _ _ | apply Below.drew | refine below_drewN ?_ _ | refine Below.setCell ?_ (by simp) _ | refine Below.alloc ?_ (by simp) _)
end Go.Proofs.Ytciafmnideihjaa
