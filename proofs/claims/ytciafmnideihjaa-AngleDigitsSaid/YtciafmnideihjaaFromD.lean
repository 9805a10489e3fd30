/- Package filigreeref21: whole, FromDigits. · Package filigreeref21: FromDigits, told. -/
import Derived.Test.YtciafmnideihjaaR02F
import Derived.Test.YtciafmnideihjaaSpellC
namespace Go.Proofs.Ytciafmnideihjaa
open Go.RowKit Go.Sort

/-- May the digits be? -/
def okD (d : Nat) (l : List Nat) : Bool := l.all fun x => decide (x < d)
theorem okD_iff {d : Nat} {l : List Nat} : okD d l = true ↔ ∀ x, x ∈ l → x < d := by simp [okD]
/-- What 'whole' tells. -/
def wholeV (d : Nat) (l : List Nat) : Value := if okD d l then .tuple #[.string (natS (numL d l)), .bool true] else .tuple #[.string ⟨#[]⟩, .bool false]
theorem add_256 {a b k : Nat} (ha : a < 256 ^ (k + 1)) (hb : b < 256) : a + b < 256 ^ (k + 1 + 1) := by
  have h1 : 256 ^ 1 ≤ 256 ^ (k + 1) := Nat.pow_le_pow_right (by omega) (by omega)
  rw [Nat.pow_succ 256 (k + 1)]
  omega
theorem numL_zero (d : Nat) : numL d [] = 0 := rfl

set_option exponentiation.threshold 9000 in
set_option maxRecDepth 100000 in
set_option maxHeartbeats 2000000 in
/-- filigreeref21.whole -/
theorem rwhole_any (d : Nat) {T : TypeId} (v : Value) (l : List Nat) (w : World) (hd2 : 2 ≤ d) (hd : d ≤ 64) (hv : Rd .u8 T w v l) (hs : ∀ x, x ∈ l → x < 256) (hlen : l.length ≤ 1024) :
    Calls Try.prog 80 #[.int .i64 (d : Int), v] w (RetVal (wholeV d l) w) := by
  obtain ⟨A, c, rfl, a1, a2, a3⟩ := id hv
  obtain ⟨L, hL⟩ : ∃ L, L = l.length := ⟨_, rfl⟩
  rw [← hL] at a1 hlen hv ⊢
  obtain ⟨F, hF⟩ : ∃ F : Nat → ByteArray, F = natS := ⟨_, rfl⟩
  have hF0 : Hid (F 0 = ⟨#[]⟩) := Lib.hid (by rw [hF]; exact natS_empty)
  have hO : ∀ (n : Nat) W, n < 18446744073709551616 → Calls Try.prog 58 #[.int .u64 (n : Int)] W (RetVal (.string (F n)) W) := fun n W h => by rw [hF]; exact rnum_any n W h
  have hM : ∀ (a : Nat) W, a < 256 ^ 1024 → Calls Try.prog 81 #[.string (F a), .string (F d)] W (RetVal (.tuple #[.string (F (a * d)), .int .i64 0]) W) := fun a W h => by
    rw [hF]
    have e1 := nb_small h
    have e2 : (nb d).length ≤ 1 := nb_small (by omega)
    have e3 : (nb (a * d)).length ≤ 1025 := nb_small (mul_256 (j := 1) h (by omega))
    exact rmul_any a d W (by omega) (by omega)
  have hP : ∀ (a b : Nat) W, a < 256 ^ 1025 → b < 256 → Calls Try.prog 82 #[.string (F a), .string (F b)] W (RetVal (.tuple #[.string (F (a + b)), .int .i64 0]) W) := fun a b W h h2 => by
    rw [hF]
    have e1 := nb_small h
    have e2 : (nb b).length ≤ 1 := nb_small (by omega)
    have e3 : (nb (a + b)).length ≤ 1026 := nb_small (add_256 h h2)
    exact radd02_any a b W (by omega) (by omega) (by omega)
  replace hF := Lib.hid hF
  replace hO := Lib.hid hO
  replace hM := Lib.hid hM
  replace hP := Lib.hid hP
  replace hL := Lib.hid hL
  replace hs := Lib.hid hs
  replace hv := Lib.hid hv
  have hdI : (2 : Int) ≤ (d : Int) := by omega
  have hdI2 : (d : Int) ≤ 64 := by omega
  clear a3
  go_enter Try.func80, Try.ntmps80
  go_wp2_with fail
  refine (hO.out d _ (by omega)).mono ?_
  rintro e w1 ⟨rfl, hb⟩
  have hB := Lib.hid hb
  have hv1 := Lib.hid (hv.out.below hb)
  clear hb
  go_wp2_with fail
  go_loopw [6, 8] (fun sv iv wr => ∃ j : Nat, iv = .int .i64 (j : Int) ∧ j ≤ L ∧ sv = .string (F (numL d (l.take j))) ∧ okD d (l.take j) = true ∧ Below w.heap.size w wr) (fun _ iv _ => L - (intOf iv).toNat)
  case atStart => exact ⟨0, rfl, Nat.zero_le _, by rw [List.take_zero, numL_zero, hF0.out], rfl, hB.out⟩
  case round =>
    obtain ⟨j, rfl, hj, rfl, hok, hBr⟩ := hrel
    replace hok := Lib.hid hok
    replace hBr := Lib.hid hBr
    by_cases h0 : j < L
    · have h0I : (j : Int) < (L : Int) := by omega
      have hvr := hv.out.below hBr.out
      obtain ⟨x, hx⟩ : ∃ x, l[j]? = some x := ⟨_, List.getElem?_eq_getElem (by rw [← hL.out]; exact h0)⟩
      have hx9 := hs.out x (List.mem_of_getElem? hx)
      have hxI9 : (x : Int) < 256 := by omega
      obtain ⟨ga, oa, ca, La, ea, -, -, hAa, hLa⟩ := hvr.open_ (fun e => by have := hL.out; rw [e] at this; simp at this; omega)
      injection ea with ea1 em ea2
      subst ea1 ea2
      clear em
      have hcx : wr.cell? ⟨ga, oa + j, none⟩ = some (.int .u8 (x : Int)) := hAa.cell (hLa _ _ hx)
      have htk : l.take (j + 1) = l.take j ++ [x] := by
        have hlt := lt_of_getElem? hx
        have e : l[j] = x := by rw [List.getElem?_eq_getElem hlt] at hx; exact Option.some.inj hx
        rw [List.take_succ_eq_append_getElem hlt, e]
      by_cases hxd : x < d
      · have hxI : ¬ (d : Int) ≤ (x : Int) := by omega
        have hok2 : Hid (okD d (l.take (j + 1)) = true) := Lib.hid (by rw [htk, okD, List.all_append, ← okD, hok.out]; simp [hxd])
        have hnum : Hid (numL d (l.take (j + 1)) = numL d (l.take j) * d + x) := Lib.hid (numL_take hx)
        have hbig : numL d (l.take j) < 256 ^ 1024 := by
          have h3 := numL_lt (d := d) (by omega) (l.take j) (fun y hy => hs.out y (List.mem_of_mem_take hy))
          exact le_256 h3 (by rw [List.length_take]; omega)
        have hbig2 : numL d (l.take j) * d < 256 ^ 1025 := by
          have h3 := mul_256 (b := d) (j := 1) hbig (by omega)
          exact h3
        obtain ⟨a, ha⟩ : ∃ a, a = numL d (l.take j) := ⟨_, rfl⟩
        obtain ⟨b, hb⟩ : ∃ b, b = a * d := ⟨_, rfl⟩
        rw [← ha] at hnum hbig hbig2 ⊢
        rw [← hb] at hnum hbig2
        have hM2 : ∀ W, Calls Try.prog 81 #[.string (F a), .string (F d)] W (RetVal (.tuple #[.string (F b), .int .i64 0]) W) := fun W => by rw [hb]; exact hM.out a W hbig
        have hP2 : ∀ W, Calls Try.prog 82 #[.string (F b), .string (F x)] W (RetVal (.tuple #[.string (F (b + x)), .int .i64 0]) W) := fun W => hP.out b x W hbig2 hx9
        replace hM2 := Lib.hid hM2
        replace hP2 := Lib.hid hP2
        have hga := Lib.hid hAa.lt
        clear hx hLa hAa hvr hbig hbig2 ha hb htk
        go_wp2_with fail
        refine (hM2.out _).mono ?_
        rintro en w2 ⟨rfl, hb2⟩
        replace hBr := Lib.hid (hBr.out.trans (hb2.mono hBr.out.size))
        have hcx2 : w2.cell? ⟨ga, oa + j, none⟩ = some (.int .u8 (x : Int)) := (hb2.cell (p := ⟨ga, oa + j, none⟩) hga.out).trans hcx
        clear hb2 hcx
        go_wp2_with fail
        refine (hO.out x _ (by omega)).mono ?_
        rintro en w3 ⟨rfl, hb3⟩
        replace hBr := Lib.hid (hBr.out.trans (hb3.mono hBr.out.size))
        clear hb3 hcx2
        go_wp2_with fail
        refine (hP2.out _).mono ?_
        rintro en w4 ⟨rfl, hb4⟩
        replace hBr := Lib.hid (hBr.out.trans (hb4.mono hBr.out.size))
        clear hb4
        go_wp2_with fail
        go_roundw
        case rel => exact ⟨j + 1, by go_num, by omega, by rw [hnum.out], hok2.out, hBr.out⟩
        case measure => simp [intOf]; omega
      · have hxI : (d : Int) ≤ (x : Int) := by omega
        have hw : Hid (wholeV d l = .tuple #[.string ⟨#[]⟩, .bool false]) := Lib.hid (by
          have : okD d l = false := by
            cases h : okD d l
            · rfl
            · exact absurd (okD_iff.1 h x (List.mem_of_getElem? hx)) hxd
          simp [wholeV, this])
        clear hx hAa hLa hvr htk
        go_wp2_with fail
        go_ret2
        exact ⟨by rw [hw.out]; rfl, hBr.out⟩
    · obtain rfl : j = L := by omega
      have h0I : ¬ (j : Int) < (j : Int) := by omega
      have hw : Hid (wholeV d l = .tuple #[.string (F (numL d (l.take j))), .bool true]) := Lib.hid (by
        have e : l.take j = l := by rw [hL.out, List.take_length]
        have h := hok.out
        rw [e] at h ⊢
        simp [wholeV, h, hF.out])
      go_wp2_with fail
      go_ret2
      exact ⟨by rw [hw.out]; rfl, hBr.out⟩

set_option maxRecDepth 100000 in
set_option maxHeartbeats 2000000 in
/-- filigreeref21.FromDigits, refused. -/
theorem fromD_err (d : Nat) {T1 T2 : TypeId} (v1 v2 : Value) (l1 l2 : List Nat) (E : Int) (w : World) (hd2 : 2 ≤ d) (hd : d ≤ 64) (h1 : Rd .u8 T1 w v1 l1) (h2 : Rd .u8 T2 w v2 l2)
    (hs1 : ∀ x, x ∈ l1 → x < 256) (hs2 : ∀ x, x ∈ l2 → x < 256) (hlen : l1.length + l2.length ≤ 1125899906842624)
    (hE : (l2.length = 0 ∧ E = 2) ∨ (l2.length ≠ 0 ∧ 1024 < l1.length + l2.length ∧ E = 4) ∨ (l2.length ≠ 0 ∧ l1.length + l2.length ≤ 1024 ∧ (okD d l1 = false ∨ okD d l2 = false) ∧ E = 212)) :
    Calls Try.prog 49 #[.int .i64 (d : Int), v1, v2] w (RetVal (.tuple #[.agg #[.int .u64 0, .int .u64 0], .int .i64 E]) w) := by
  obtain ⟨A1, c1, rfl, a1, a2, a3⟩ := id h1
  obtain ⟨A2, c2, rfl, b1, b2, b3⟩ := id h2
  obtain ⟨L1, hL1⟩ : ∃ L, L = l1.length := ⟨_, rfl⟩
  obtain ⟨L2, hL2⟩ : ∃ L, L = l2.length := ⟨_, rfl⟩
  rw [← hL1] at a1 hlen hE h1 ⊢
  rw [← hL2] at b1 hlen hE h2 ⊢
  have kr := Blk.new w 34 #[.int .u64 0, .int .u64 0]
  have hBW : Below w.heap.size w (w.alloc (.cells #[.int .u64 0, .int .u64 0] 34)) := (Below.refl _ w).alloc (Nat.le_refl _) _
  have k1 := h1.alloc (.cells #[.int .u64 0, .int .u64 0] 34)
  have k2 := h2.alloc (.cells #[.int .u64 0, .int .u64 0] 34)
  have hpos : 0 < (L1 : Int) + 1 := by omega
  clear h1 h2 a3 b3
  rcases hE with ⟨h, rfl⟩ | ⟨h, h4, rfl⟩ | ⟨h, h4, h5, rfl⟩
  · obtain rfl : L2 = 0 := h
    replace hL1 := Lib.hid hL1
    replace hL2 := Lib.hid hL2
    replace hs1 := Lib.hid hs1
    replace hs2 := Lib.hid hs2
    replace kr := Lib.hid kr
    replace hBW := Lib.hid hBW
    replace k1 := Lib.hid k1
    replace k2 := Lib.hid k2
    go_enter Try.func49, Try.ntmps49
    go_wp2_with fail
    refine bodyPost_ret (v := .tuple #[.agg #[.int .u64 0, .int .u64 0], .int .i64 2]) (by simp [results, Try.results49, go_sem]) rfl ⟨rfl, ?_⟩
    first
      | exact (hBW.out.setCell (p := ⟨w.heap.size, 0, none⟩) (by simp) _).setCell (p := ⟨w.heap.size, 1, none⟩) (by simp) _
      | exact hBW.out
  · have hL2I : ((L2 : Int) == 0) = false := by simp; omega
    replace hL1 := Lib.hid hL1
    replace hL2 := Lib.hid hL2
    replace hs1 := Lib.hid hs1
    replace hs2 := Lib.hid hs2
    replace kr := Lib.hid kr
    replace hBW := Lib.hid hBW
    replace k1 := Lib.hid k1
    replace k2 := Lib.hid k2
    by_cases h6 : 1024 < L1
    · have h6I : (1024 : Int) < (L1 : Int) := by omega
      go_enter Try.func49, Try.ntmps49
      go_wp2_with fail
      refine bodyPost_ret (v := .tuple #[.agg #[.int .u64 0, .int .u64 0], .int .i64 4]) (by simp [results, Try.results49, go_sem]) rfl ⟨rfl, ?_⟩
      first
        | exact (hBW.out.setCell (p := ⟨w.heap.size, 0, none⟩) (by simp) _).setCell (p := ⟨w.heap.size, 1, none⟩) (by simp) _
        | exact hBW.out
    · have h6I : ¬ (1024 : Int) < (L1 : Int) := by omega
      have h7I : (1024 : Int) - (L1 : Int) < (L2 : Int) := by omega
      have h8I : (0 : Int) ≤ (1024 : Int) - (L1 : Int) := by omega
      go_enter Try.func49, Try.ntmps49
      go_wp2_with fail
      refine bodyPost_ret (v := .tuple #[.agg #[.int .u64 0, .int .u64 0], .int .i64 4]) (by simp [results, Try.results49, go_sem]) rfl ⟨rfl, ?_⟩
      first
        | exact (hBW.out.setCell (p := ⟨w.heap.size, 0, none⟩) (by simp) _).setCell (p := ⟨w.heap.size, 1, none⟩) (by simp) _
        | exact hBW.out
  · have hL2I : ((L2 : Int) == 0) = false := by simp; omega
    have h6I : ¬ (1024 : Int) < (L1 : Int) := by omega
    have h7I : ¬ (1024 : Int) - (L1 : Int) < (L2 : Int) := by omega
    have h8I : (0 : Int) ≤ (1024 : Int) - (L1 : Int) := by omega
    have c1 : ∀ W, Rd .u8 T1 W (.slice A1 L1 c1) l1 → Calls Try.prog 80 #[.int .i64 (d : Int), .slice A1 L1 c1] W (RetVal (wholeV d l1) W) := fun W h => rwhole_any d _ l1 W hd2 hd h hs1 (by omega)
    have c2 : ∀ W, Rd .u8 T2 W (.slice A2 L2 c2) l2 → Calls Try.prog 80 #[.int .i64 (d : Int), .slice A2 L2 c2] W (RetVal (wholeV d l2) W) := fun W h => rwhole_any d _ l2 W hd2 hd h hs2 (by omega)
    have hw1 : ∃ S1 b1, wholeV d l1 = .tuple #[.string S1, .bool b1] ∧ b1 = okD d l1 := by
      unfold wholeV
      cases okD d l1 <;> exact ⟨_, _, rfl, rfl⟩
    have hw2 : ∃ S2 b2, wholeV d l2 = .tuple #[.string S2, .bool b2] ∧ b2 = okD d l2 := by
      unfold wholeV
      cases okD d l2 <;> exact ⟨_, _, rfl, rfl⟩
    obtain ⟨S1, b1, e1, f1⟩ := hw1
    obtain ⟨S2, b2, e2, f2⟩ := hw2
    rw [e1] at c1
    rw [e2] at c2
    rw [← f1, ← f2] at h5
    replace c1 := Lib.hid c1
    replace c2 := Lib.hid c2
    replace h5 := Lib.hid h5
    replace hL1 := Lib.hid hL1
    replace hL2 := Lib.hid hL2
    replace kr := Lib.hid kr
    replace hBW := Lib.hid hBW
    replace k1 := Lib.hid k1
    replace k2 := Lib.hid k2
    clear e1 e2 f1 f2 hs1 hs2
    go_enter Try.func49, Try.ntmps49
    go_wp2_with fail
    refine (c1.out _ k1.out).mono ?_
    rintro e y1 ⟨rfl, hb⟩
    replace k2 := Lib.hid (k2.out.below hb)
    replace kr := Lib.hid (Blk.below kr.out hb)
    replace hBW := Lib.hid (hBW.out.trans (hb.mono hBW.out.size))
    clear hb k1
    go_wp2_with fail
    refine (c2.out _ k2.out).mono ?_
    rintro e y2 ⟨rfl, hb⟩
    replace kr := Lib.hid (Blk.below kr.out hb)
    replace hBW := Lib.hid (hBW.out.trans (hb.mono hBW.out.size))
    clear hb k2
    have r0 := kr.out.cell 0
    have r1 := kr.out.cell 1
    have f0 := kr.out.frozen 0
    have f1 := kr.out.frozen 1
    rcases h5.out with rfl | rfl
    all_goals
      try cases b1
      all_goals
        go_wp2_with fail
        refine bodyPost_ret (v := .tuple #[.agg #[.int .u64 0, .int .u64 0], .int .i64 212]) (by simp [results, Try.results49, go_sem, r0, r1]) rfl ⟨rfl, ?_⟩
        first
          | exact (hBW.out.setCell (p := ⟨w.heap.size, 0, none⟩) (by simp) _).setCell (p := ⟨w.heap.size, 1, none⟩) (by simp) _
          | exact hBW.out
end Go.Proofs.Ytciafmnideihjaa

namespace Go.Proofs.Ytciafmnideihjaa
open Go.RowKit Go.Sort

theorem add_256k {a b k : Nat} (ha : a < 256 ^ k) (hb : b < 256 ^ k) : a + b < 256 ^ (k + 1) := by
  rw [Nat.pow_succ]
  omega

/-- A contract's outcome under another name of its value. -/
theorem ret_as {P : Program} {f : FuncId} {args : Array Value} {w : World} {u v : Value} (h : Calls P f args w (RetVal u w)) (e : u = v) : Calls P f args w (RetVal v w) := by rw [← e]; exact h

set_option exponentiation.threshold 9000 in
set_option maxRecDepth 100000 in
set_option maxHeartbeats 4000000 in
/-- filigreeref21.FromDigits, told. -/
theorem fromD_any (d : Nat) {T1 T2 : TypeId} (v1 v2 : Value) (l1 l2 : List Nat) (N D : Nat) (w : World) (hd2 : 2 ≤ d) (hd : d ≤ 64) (h1 : Rd .u8 T1 w v1 l1) (h2 : Rd .u8 T2 w v2 l2)
    (hs1 : ∀ x, x ∈ l1 → x < d) (hs2 : ∀ x, x ∈ l2 → x < d) (hp : 1 ≤ l2.length) (hlen : l1.length + l2.length ≤ 1024)
    (hN : N = ((numL d l1 * (d ^ l2.length - 1) + numL d l2) % (d ^ l1.length * (d ^ l2.length - 1))) / Nat.gcd ((numL d l1 * (d ^ l2.length - 1) + numL d l2) % (d ^ l1.length * (d ^ l2.length - 1))) (d ^ l1.length * (d ^ l2.length - 1)))
    (hD : D = (d ^ l1.length * (d ^ l2.length - 1)) / Nat.gcd ((numL d l1 * (d ^ l2.length - 1) + numL d l2) % (d ^ l1.length * (d ^ l2.length - 1))) (d ^ l1.length * (d ^ l2.length - 1))) :
    Calls Try.prog 49 #[.int .i64 (d : Int), v1, v2] w (RetVal (raddV N D) w) := by
  obtain ⟨A1, c1, rfl, a1, a2, a3⟩ := id h1
  obtain ⟨A2, c2, rfl, b1, b2, b3⟩ := id h2
  obtain ⟨L1, hL1⟩ : ∃ L, L = l1.length := ⟨_, rfl⟩
  obtain ⟨L2, hL2⟩ : ∃ L, L = l2.length := ⟨_, rfl⟩
  have hw1 : wholeV d l1 = .tuple #[.string (natS (numL d l1)), .bool true] := by simp [wholeV, okD_iff.2 hs1]
  have hw2 : wholeV d l2 = .tuple #[.string (natS (numL d l2)), .bool true] := by simp [wholeV, okD_iff.2 hs2]
  have k1 : ∀ W, Rd .u8 T1 W (.slice A1 L1 c1) l1 → Calls Try.prog 80 #[.int .i64 (d : Int), .slice A1 L1 c1] W (RetVal (wholeV d l1) W) := fun W h => rwhole_any d _ l1 W hd2 hd h (fun x hx => by have := hs1 x hx; omega) (by omega)
  have k2 : ∀ W, Rd .u8 T2 W (.slice A2 L2 c2) l2 → Calls Try.prog 80 #[.int .i64 (d : Int), .slice A2 L2 c2] W (RetVal (wholeV d l2) W) := fun W h => rwhole_any d _ l2 W hd2 hd h (fun x hx => by have := hs2 x hx; omega) (by omega)
  have bA := numL_lt (d := d) (by omega) l1 (fun x hx => by have := hs1 x hx; omega)
  have bC := numL_lt (d := d) (by omega) l2 (fun x hx => by have := hs2 x hx; omega)
  rw [← hL1] at a1 hlen hN hD h1 bA ⊢
  rw [← hL2] at b1 hlen hN hD h2 bC hp ⊢
  obtain ⟨A, hA⟩ : ∃ A, A = numL d l1 := ⟨_, rfl⟩
  obtain ⟨C, hC⟩ : ∃ C, C = numL d l2 := ⟨_, rfl⟩
  obtain ⟨E1, hE1⟩ : ∃ E, E = d ^ L1 := ⟨_, rfl⟩
  obtain ⟨E2, hE2⟩ : ∃ E, E = d ^ L2 := ⟨_, rfl⟩
  obtain ⟨B, hB⟩ : ∃ B, B = E2 - 1 := ⟨_, rfl⟩
  rw [← hA, ← hC, ← hE1, ← hE2, ← hB] at hN hD
  rw [← hA] at bA hw1
  rw [← hC] at bC hw2
  obtain ⟨X1, hX1⟩ : ∃ X, X = A * B := ⟨_, rfl⟩
  obtain ⟨X2, hX2⟩ : ∃ X, X = X1 + C := ⟨_, rfl⟩
  obtain ⟨DD, hDD⟩ : ∃ X, X = E1 * B := ⟨_, rfl⟩
  obtain ⟨X, hX⟩ : ∃ X, X = X2 % DD := ⟨_, rfl⟩
  obtain ⟨G, hG⟩ : ∃ G, G = Nat.gcd X DD := ⟨_, rfl⟩
  rw [← hX1, ← hX2, ← hDD, ← hX, ← hG] at hN hD
  have bE1 : E1 < 256 ^ (L1 + 1) := by rw [hE1]; exact pow_256 hd
  have bE2 : E2 < 256 ^ (L2 + 1) := by rw [hE2]; exact pow_256 hd
  have pE1 : 0 < E1 := by rw [hE1]; exact Nat.pow_pos (by omega)
  have pE2 : 2 ≤ E2 := by
    rw [hE2]
    exact Nat.le_trans hd2 (by have := Nat.pow_le_pow_right (n := d) (by omega) hp; rwa [Nat.pow_one] at this)
  have bB : B < 256 ^ (L2 + 1) := by omega
  have pB : 0 < B := by omega
  have bX1 : X1 < 256 ^ (L1 + (L2 + 1)) := by rw [hX1]; exact mul_256 bA bB
  have bX2 : X2 < 256 ^ (L1 + (L2 + 1) + 1) := by rw [hX2]; exact add_256k bX1 (le_256 bC (by omega))
  have bDD : DD < 256 ^ (L1 + 1 + (L2 + 1)) := by rw [hDD]; exact mul_256 bE1 bB
  have pDD : 0 < DD := by rw [hDD]; exact Nat.mul_pos pE1 pB
  have lX : X < DD := by rw [hX]; exact Nat.mod_lt _ pDD
  have pG : 0 < G := by rw [hG]; exact Nat.gcd_pos_of_pos_right _ pDD
  have lG : G ≤ DD := by rw [hG]; exact Nat.gcd_le_right _ pDD
  have lN : N < D := by
    rw [hN, hD]
    have g1 : G * (X / G) = X := Nat.mul_div_cancel' (by rw [hG]; exact Nat.gcd_dvd_left _ _)
    have g2 : G * (DD / G) = DD := Nat.mul_div_cancel' (by rw [hG]; exact Nat.gcd_dvd_right _ _)
    exact Nat.lt_of_mul_lt_mul_left (a := G) (by rw [g1, g2]; exact lX)
  have sA := nb_small bA
  have sC := nb_small bC
  have sE1 := nb_small bE1
  have sE2 := nb_small bE2
  have sB := nb_small bB
  have sX1 := nb_small bX1
  have sX2 := nb_small bX2
  have sDD := nb_small bDD
  have sX := Nat.le_trans (nb_len_mono (Nat.le_of_lt lX)) sDD
  have sG := Nat.le_trans (nb_len_mono lG) sDD
  have sd : (nb d).length ≤ 1 := nb_small (by omega)
  have s1 : (nb 1).length ≤ 1 := nb_small (by omega)
  have lD : D ≤ DD := by rw [hD]; exact Nat.div_le_self _ _
  have sD := Nat.le_trans (nb_len_mono lD) sDD
  obtain ⟨F, hF⟩ : ∃ F : Nat → ByteArray, F = natS := ⟨_, rfl⟩
  obtain ⟨Q1, hQ1⟩ : ∃ Q, Q = X2 / DD := ⟨_, rfl⟩
  obtain ⟨R1, hR1⟩ : ∃ Q, Q = X % G := ⟨_, rfl⟩
  obtain ⟨R2, hR2⟩ : ∃ Q, Q = DD % G := ⟨_, rfl⟩
  have cB : ∀ W, Calls Try.prog 58 #[.int .u64 (d : Int)] W (RetVal (.string (F d)) W) := fun W => by rw [hF]; exact rnum_any d W (by omega)
  have cO : ∀ W, Calls Try.prog 58 #[.int .u64 1] W (RetVal (.string (F 1)) W) := fun W => by rw [hF]; exact rnum_any 1 W (by omega)
  have cP1 : ∀ W, Calls Try.prog 69 #[.string (F d), .int .i64 (L1 : Int)] W (RetVal (.tuple #[.string (F E1), .int .i64 0]) W) := fun W => by rw [hF, hE1]; exact rpow_any d L1 W hd2 (by omega) (by rw [← hE1]; omega)
  have cP2 : ∀ W, Calls Try.prog 69 #[.string (F d), .int .i64 (L2 : Int)] W (RetVal (.tuple #[.string (F E2), .int .i64 0]) W) := fun W => by rw [hF, hE2]; exact rpow_any d L2 W hd2 (by omega) (by rw [← hE2]; omega)
  have cS : ∀ W, Calls Try.prog 70 #[.string (F E2), .string (F 1)] W (RetVal (.tuple #[.string (F B), .int .i64 0]) W) := fun W => by rw [hF, hB]; exact rsub_any E2 1 W (by omega) (by omega)
  have cM1 : ∀ W, Calls Try.prog 81 #[.string (F A), .string (F B)] W (RetVal (.tuple #[.string (F X1), .int .i64 0]) W) := fun W => by rw [hF, hX1]; exact rmul_any A B W (by omega) (by rw [← hX1]; omega)
  have cA : ∀ W, Calls Try.prog 82 #[.string (F X1), .string (F C)] W (RetVal (.tuple #[.string (F X2), .int .i64 0]) W) := fun W => by rw [hF, hX2]; exact radd02_any X1 C W (by omega) (by omega) (by rw [← hX2]; omega)
  have cM2 : ∀ W, Calls Try.prog 81 #[.string (F E1), .string (F B)] W (RetVal (.tuple #[.string (F DD), .int .i64 0]) W) := fun W => by rw [hF, hDD]; exact rmul_any E1 B W (by omega) (by rw [← hDD]; omega)
  have cD1 : ∀ W, Calls Try.prog 83 #[.string (F X2), .string (F DD)] W (RetVal (.tuple #[.string (F Q1), .string (F X), .int .i64 0]) W) := fun W => by rw [hF, hX, hQ1]; exact rdiv_any X2 DD W pDD (by omega) (by omega)
  have cG : ∀ W, Calls Try.prog 84 #[.string (F X), .string (F DD)] W (RetVal (.string (F G)) W) := fun W => by rw [hF, hG]; exact rgcdS_any X DD W (by omega) (by omega)
  have cD2 : ∀ W, Calls Try.prog 83 #[.string (F X), .string (F G)] W (RetVal (.tuple #[.string (F N), .string (F R1), .int .i64 0]) W) := fun W => by rw [hF, hN, hR1]; exact rdiv_any X G W pG (by omega) (by omega)
  have cD3 : ∀ W, Calls Try.prog 83 #[.string (F DD), .string (F G)] W (RetVal (.tuple #[.string (F D), .string (F R2), .int .i64 0]) W) := fun W => by rw [hF, hD, hR2]; exact rdiv_any DD G W pG (by omega) (by omega)
  have hsz : (F D).size ≤ 16384 := by rw [hF, natS_size]; omega
  have cSm : ∀ W, Calls Try.prog 53 #[.string (F D)] W (fun e w' => e = .returned (.tuple #[.int .u64 ((if decide ((nb D).length ≤ 8) then D else 0 : Nat) : Int), .bool (decide ((nb D).length ≤ 8))]) ∧ W = w') := fun W => by
    have h := rsmall_any (F D) W (by omega)
    have e : smallB (F D) = decide ((nb D).length ≤ 8) := by rw [hF, smallB, mayB_natS (by omega), natS_size, Bool.true_and]
    rw [e] at h
    rw [hF] at h ⊢
    rw [be_natS] at h
    exact h
  have cSn : D ≤ 2147483647 → ∀ W, Calls Try.prog 53 #[.string (F N)] W (fun e w' => e = .returned (.tuple #[.int .u64 (N : Int), .bool true]) ∧ W = w') := fun hle W => by
    have hn4 : (nb N).length ≤ 4 := nb_small (by omega)
    have h := rsmall_any (F N) W (by rw [hF, natS_size]; omega)
    have e : smallB (F N) = true := by
      have : (nb N).length ≤ 8 := by omega
      rw [hF, smallB, mayB_natS (by omega), natS_size, Bool.true_and]
      exact decide_eq_true this
    rw [e] at h
    rw [hF] at h ⊢
    rw [be_natS] at h
    exact h
  have hDs : (nb D).length ≤ 8 → D < 18446744073709551616 := fun h => by
    have h3 := nb_self_lt D
    exact Nat.lt_of_lt_of_le h3 (Nat.le_trans (Nat.pow_le_pow_right (by omega) h) (by decide))
  have hDt : D ≤ 2147483647 → (nb D).length ≤ 8 := fun h => Nat.le_trans (nb_small (k := 4) (by omega)) (by omega)
  rw [hw1, ← hF] at k1
  rw [hw2, ← hF] at k2
  have kr := Blk.new w 34 #[.int .u64 0, .int .u64 0]
  have hBW : Below w.heap.size w (w.alloc (.cells #[.int .u64 0, .int .u64 0] 34)) := (Below.refl _ w).alloc (Nat.le_refl _) _
  have r1' := h1.alloc (.cells #[.int .u64 0, .int .u64 0] 34)
  have r2' := h2.alloc (.cells #[.int .u64 0, .int .u64 0] 34)
  have hL2I : ((L2 : Int) == 0) = false := by simp; omega
  have h6I : ¬ (1024 : Int) < (L1 : Int) := by omega
  have h7I : ¬ (1024 : Int) - (L1 : Int) < (L2 : Int) := by omega
  have h8I : (0 : Int) ≤ (1024 : Int) - (L1 : Int) := by omega
  have hdI : (2 : Int) ≤ (d : Int) := by omega
  have hdI2 : (d : Int) ≤ 64 := by omega
  replace cB := Lib.hid cB
  replace cO := Lib.hid cO
  replace cP1 := Lib.hid cP1
  replace cP2 := Lib.hid cP2
  replace cS := Lib.hid cS
  replace cM1 := Lib.hid cM1
  replace cA := Lib.hid cA
  replace cM2 := Lib.hid cM2
  replace cD1 := Lib.hid cD1
  replace cG := Lib.hid cG
  replace cD2 := Lib.hid cD2
  replace cD3 := Lib.hid cD3
  replace cSm := Lib.hid cSm
  replace cSn := Lib.hid cSn
  replace hDs := Lib.hid hDs
  replace hDt := Lib.hid hDt
  replace k1 := Lib.hid k1
  replace k2 := Lib.hid k2
  replace kr := Lib.hid kr
  replace hBW := Lib.hid hBW
  replace r1' := Lib.hid r1'
  replace r2' := Lib.hid r2'
  clear h1 h2 a3 b3 hs1 hs2 hN hD hw1 hw2 hF hA hC hE1 hE2 hB hX1 hX2 hDD hX hG hQ1 hR1 hR2 hL1 hL2 bA bC bE1 bE2 pE1 pE2 bB pB bX1 bX2 bDD pDD lX pG lG lN sA sC sE1 sE2 sB sX1 sX2 sDD sX sG sd s1 lD sD hsz
  go_enter Try.func49, Try.ntmps49
  go_wp2_with fail
  refine (k1.out _ r1'.out).mono ?_
  rintro e y1 ⟨rfl, hb⟩
  replace r2' := Lib.hid (r2'.out.below hb)
  replace kr := Lib.hid (Blk.below kr.out hb)
  replace hBW := Lib.hid (hBW.out.trans (hb.mono hBW.out.size))
  clear hb r1' k1
  go_wp2_with fail
  refine (k2.out _ r2'.out).mono ?_
  rintro e y2 ⟨rfl, hb⟩
  replace kr := Lib.hid (Blk.below kr.out hb)
  replace hBW := Lib.hid (hBW.out.trans (hb.mono hBW.out.size))
  clear hb r2' k2
  go_wp2_with fail
  refine (cB.out _).mono ?_
  rintro e z ⟨rfl, hb⟩
  replace kr := Lib.hid (Blk.below kr.out hb)
  replace hBW := Lib.hid (hBW.out.trans (hb.mono hBW.out.size))
  clear hb cB
  go_wp2_with fail
  refine (cP1.out _).mono ?_
  rintro e z ⟨rfl, hb⟩
  replace kr := Lib.hid (Blk.below kr.out hb)
  replace hBW := Lib.hid (hBW.out.trans (hb.mono hBW.out.size))
  clear hb cP1
  go_wp2_with fail
  refine (cP2.out _).mono ?_
  rintro e z ⟨rfl, hb⟩
  replace kr := Lib.hid (Blk.below kr.out hb)
  replace hBW := Lib.hid (hBW.out.trans (hb.mono hBW.out.size))
  clear hb cP2
  go_wp2_with fail
  refine (cO.out _).mono ?_
  rintro e z ⟨rfl, hb⟩
  replace kr := Lib.hid (Blk.below kr.out hb)
  replace hBW := Lib.hid (hBW.out.trans (hb.mono hBW.out.size))
  clear hb cO
  go_wp2_with fail
  refine (cS.out _).mono ?_
  rintro e z ⟨rfl, hb⟩
  replace kr := Lib.hid (Blk.below kr.out hb)
  replace hBW := Lib.hid (hBW.out.trans (hb.mono hBW.out.size))
  clear hb cS
  go_wp2_with fail
  refine (cM1.out _).mono ?_
  rintro e z ⟨rfl, hb⟩
  replace kr := Lib.hid (Blk.below kr.out hb)
  replace hBW := Lib.hid (hBW.out.trans (hb.mono hBW.out.size))
  clear hb cM1
  go_wp2_with fail
  refine (cA.out _).mono ?_
  rintro e z ⟨rfl, hb⟩
  replace kr := Lib.hid (Blk.below kr.out hb)
  replace hBW := Lib.hid (hBW.out.trans (hb.mono hBW.out.size))
  clear hb cA
  go_wp2_with fail
  refine (cM2.out _).mono ?_
  rintro e z ⟨rfl, hb⟩
  replace kr := Lib.hid (Blk.below kr.out hb)
  replace hBW := Lib.hid (hBW.out.trans (hb.mono hBW.out.size))
  clear hb cM2
  go_wp2_with fail
  refine (cD1.out _).mono ?_
  rintro e z ⟨rfl, hb⟩
  replace kr := Lib.hid (Blk.below kr.out hb)
  replace hBW := Lib.hid (hBW.out.trans (hb.mono hBW.out.size))
  clear hb cD1
  go_wp2_with fail
  refine (cG.out _).mono ?_
  rintro e z ⟨rfl, hb⟩
  replace kr := Lib.hid (Blk.below kr.out hb)
  replace hBW := Lib.hid (hBW.out.trans (hb.mono hBW.out.size))
  clear hb cG
  go_wp2_with fail
  refine (cD2.out _).mono ?_
  rintro e z ⟨rfl, hb⟩
  replace kr := Lib.hid (Blk.below kr.out hb)
  replace hBW := Lib.hid (hBW.out.trans (hb.mono hBW.out.size))
  clear hb cD2
  go_wp2_with fail
  refine (cD3.out _).mono ?_
  rintro e z ⟨rfl, hb⟩
  replace kr := Lib.hid (Blk.below kr.out hb)
  replace hBW := Lib.hid (hBW.out.trans (hb.mono hBW.out.size))
  clear hb cD3
  go_wp2_with fail
  refine (cSm.out _).mono ?_
  rintro e z ⟨rfl, rfl⟩
  have r0 := kr.out.cell 0
  have r1 := kr.out.cell 1
  have f0 := kr.out.frozen 0
  have f1 := kr.out.frozen 1
  by_cases hle : D ≤ 2147483647
  · have h8 := hDt.out hle
    have hdI3 : ¬ (2147483647 : Int) < (D : Int) := by omega
    have hn := Lib.hid (cSn.out hle)
    have hv : Hid (raddV N D = .tuple #[.agg #[.int .u64 (N : Int), .int .u64 (D : Int)], .int .i64 0]) := Lib.hid (by simp [raddV, hle])
    simp only [h8, decide_true, if_true]
    clear h8 hle
    go_wp2_with fail
    refine (hn.out _).mono ?_
    rintro e z ⟨rfl, rfl⟩
    go_wp2_with fail
    rw [hv.out]
    refine bodyPost_ret (v := .tuple #[.agg #[.int .u64 (N : Int), .int .u64 (D : Int)], .int .i64 0]) (by simp [results, Try.results49, go_sem, r0, r1]) rfl ⟨rfl, ?_⟩
    first
      | exact (hBW.out.setCell (p := ⟨w.heap.size, 0, none⟩) (by simp) _).setCell (p := ⟨w.heap.size, 1, none⟩) (by simp) _
      | exact hBW.out
  · have hv : Hid (raddV N D = .tuple #[.agg #[.int .u64 0, .int .u64 0], .int .i64 210]) := Lib.hid (by simp [raddV, hle])
    by_cases h8 : (nb D).length ≤ 8
    · have hDl := hDs.out h8
      have hdI3 : (2147483647 : Int) < (D : Int) := by omega
      simp only [h8, decide_true, if_true]
      clear h8 hle
      go_wp2_with fail
      rw [hv.out]
      refine bodyPost_ret (v := .tuple #[.agg #[.int .u64 0, .int .u64 0], .int .i64 210]) (by simp [results, Try.results49, go_sem, r0, r1]) rfl ⟨rfl, ?_⟩
      first
        | exact (hBW.out.setCell (p := ⟨w.heap.size, 0, none⟩) (by simp) _).setCell (p := ⟨w.heap.size, 1, none⟩) (by simp) _
        | exact hBW.out
    · simp only [h8, decide_false]
      clear h8 hle
      go_wp2_with fail
      rw [hv.out]
      refine bodyPost_ret (v := .tuple #[.agg #[.int .u64 0, .int .u64 0], .int .i64 210]) (by simp [results, Try.results49, go_sem, r0, r1]) rfl ⟨rfl, ?_⟩
      first
        | exact (hBW.out.setCell (p := ⟨w.heap.size, 0, none⟩) (by simp) _).setCell (p := ⟨w.heap.size, 1, none⟩) (by simp) _
        | exact hBW.out
end Go.Proofs.Ytciafmnideihjaa
