import Derived.Test.YtoaggmegmgdgbaaGreatLamE
import Derived.Test.YtoaggmegmgdgbaaGreatRefA
import Derived.Test.YtoaggmegmgdgbaaGreatBack
import Derived.Deep.CutBlock
import Derived.Deep.CutRange
import Derived.Deep.RegionHeld3
import Derived.Test.YtoaggmegmgdgbaaGreatLamP
import Derived.Test.YtoaggmegmgdgbaaGreatLamH
import Derived.Test.YtoaggmegmgdgbaaGreatOnceJ
import Derived.Test.YtoaggmegmgdgbaaGreatGapA
import Derived.Test.YtoaggmegmgdgbaaGreatLiftF
import Derived.Test.YtoaggmegmgdgbaaGreatHullA
namespace Go.Proofs.YtoaggmegmgdgbaaGreat
open Go.RowKit Go.Sort
def okQ (Ls : List RawQ) : Bool := Ls.all fun r => okA r.1 r.2.1 r.2.2
def angQ (Ls : List RawQ) : List PT := Ls.map fun r => (be (sl r.2.1), be (sl r.2.2))
theorem okQ_snoc (Ls : List RawQ) (r : RawQ) : okQ (Ls ++ [r]) = (okQ Ls && okA r.1 r.2.1 r.2.2) := by simp [okQ]
theorem angQ_len (Ls : List RawQ) : (angQ Ls).length = Ls.length := by simp [angQ]
theorem okQ_bad {Ls : List RawQ} {i : Nat} (hi : i < Ls.length) (h : okA Ls[i]!.1 Ls[i]!.2.1 Ls[i]!.2.2 = false) : okQ Ls = false := by
  rw [Bool.eq_false_iff]
  intro e
  have := List.all_eq_true.1 e Ls[i]! (by rw [getElem!_pos Ls i hi]; exact List.getElem_mem hi)
  rw [h] at this
  cases this
end Go.Proofs.YtoaggmegmgdgbaaGreat
namespace Go.Proofs.YtoaggmegmgdgbaaGreat
open Go.RowKit Go.Sort
theorem okQ_get {Ls : List RawQ} (h : okQ Ls = true) {r : RawQ} (hr : r ∈ Ls) : okA r.1 r.2.1 r.2.2 = true := List.all_eq_true.1 h r hr
theorem angQ_ang {Ls : List RawQ} (h : okQ Ls = true) : ∀ p, p ∈ angQ Ls → Ang p := fun p hp => by
  obtain ⟨r, hr, rfl⟩ := List.mem_map.1 hp
  exact (Ang.of_ok (okQ_get h hr)).1
theorem rdP_of_raw {Ls : List RawQ} (h : okQ Ls = true) {w : World} {g c : Nat} (hv : ∀ i, i < Ls.length → ∀ (j : Nat) (u : Value), (encQ Ls[i]!)[j]? = some u → w.cell? ⟨g, i * 3 + j, none⟩ = some u) : RdP w (.slice (some ⟨g, 0, none⟩) (angQ Ls).length c) (angQ Ls) := by
  refine ⟨_, _, rfl, (fun e => by cases e), fun ad e j u hu => ?_, fun _ => rfl⟩
  injection e with e
  subst e
  rw [addr0_add]
  have hl : j < (angQ Ls).length * 3 := by
    obtain ⟨h1, -⟩ := List.getElem?_eq_some_iff.1 hu
    rwa [flatMap_len encP 3 encP_len] at h1
  have hq : j / 3 < (angQ Ls).length := by omega
  have hq2 : j / 3 < Ls.length := by rwa [angQ_len] at hq
  have e1 := flatMap_get encP 3 encP_len (angQ Ls) (j / 3) (j % 3) hq (Nat.mod_lt _ (by decide))
  rw [show j / 3 * 3 + j % 3 = j by omega, hu] at e1
  have hm : Ls[j / 3] ∈ Ls := List.getElem_mem hq2
  obtain ⟨-, k1, k2, k3⟩ := Ang.of_ok (okQ_get h hm)
  have e2 : encP (angQ Ls)[j / 3] = encQ Ls[j / 3]! := by
    rw [getElem!_pos Ls _ hq2]
    simp only [angQ, List.getElem_map, encP, encQ]
    rw [k1, ← k2, ← k3]
  rw [e2] at e1
  have := hv (j / 3) hq2 (j % 3) u e1.symm
  rwa [show j / 3 * 3 + j % 3 = j by omega] at this
set_option maxRecDepth 100000 in
set_option maxHeartbeats 4000000 in
theorem lHull_any (g c : Nat) (Ls : List RawQ) (w : World) (hv : ∀ i, i < Ls.length → ∀ (j : Nat) (u : Value), (encQ Ls[i]!)[j]? = some u → w.cell? ⟨g, i * 3 + j, none⟩ = some u) (hz : ∀ r, r ∈ Ls → szQ r) (hlen : Ls.length ≤ 4096) :
    Calls Tryz.prog 12 #[.slice (some ⟨g, 0, none⟩) Ls.length c] w fun e w' => (okQ Ls = true ∧ ∃ v', e = .returned (.tuple #[v', .int .i64 0]) ∧ LRow w' w.heap.size v' (hullL (riseL (angQ Ls))) ∧ Below w.heap.size w w') ∨ (okQ Ls = false ∧ e = .returned (.tuple #[.slice none 0 0, .int .i64 210]) ∧ Below w.heap.size w w') := by
  have cOf : Hid (∀ i (n1 : Bool) (a1 d1 : ByteArray) W, i < Ls.length → Ls[i]! = (n1, a1, d1) → Calls Tryz.prog 35 #[.agg #[.bool n1, .string a1, .string d1]] W (RetVal (.int .i64 (if okA n1 a1 d1 then 0 else 210)) W)) := Lib.hid (fun i n1 a1 d1 W hi e => by
    have hs := hz Ls[i]! (by rw [getElem!_pos Ls i hi]; exact List.getElem_mem hi)
    rw [e] at hs
    exact check_any n1 a1 d1 W hs.1 hs.2)
  have hC0 : Hid (∀ W, Below w.heap.size w W → ∀ i, i < Ls.length → ∀ (j : Nat) (u : Value), (encQ Ls[i]!)[j]? = some u → W.cell? ⟨g, i * 3 + j, none⟩ = some u) := Lib.hid (fun W hb i hi j u hu => by
    have h1 := hv i hi j u hu
    rw [hb.cell (block_lt_of_cell h1)]
    exact h1)
  have hOnce : Hid (okQ Ls = true → ∀ W, Below w.heap.size w W → Calls Tryz.prog 61 #[.slice (some ⟨g, 0, none⟩) Ls.length c] W fun e w' => ∃ v', e = .returned v' ∧ Hid (w'.ownsRow W.heap.size 26 3 v' (riseL (angQ Ls)).length ((riseL (angQ Ls)).flatMap encP)) ∧ Hid (Below W.heap.size W w')) := Lib.hid (fun h W hb => by
    have h1 := lonce_any (.slice (some ⟨g, 0, none⟩) (angQ Ls).length c) (angQ Ls) W (rdP_of_raw h (hC0.out W hb)) (angQ_ang h) (by rw [angQ_len]; omega)
    rw [angQ_len] at h1
    exact h1)
  have hHull : Hid (okQ Ls = true → ∀ (b : Nat) (v' : Value) W, W.ownsRow b 26 3 v' (riseL (angQ Ls)).length ((riseL (angQ Ls)).flatMap encP) → Calls Tryz.prog 60 #[v'] W fun e w' => ∃ v', e = .returned v' ∧ Hid (LRow w' W.heap.size v' (hullL (riseL (angQ Ls)))) ∧ Hid (Below W.heap.size W w')) := Lib.hid (fun h b v' W h1 => lhull_any b v' _ W h1 (fun p hp => angQ_ang h p (riseL_mem.1 hp)) (riseL_rises (angQ_ang h)) (by have := riseL_len (angQ Ls); rw [angQ_len] at this; omega))
  obtain ⟨n, hn2⟩ : ∃ n, n = Ls.length := ⟨_, rfl⟩
  rw [← hn2] at cOf hC0 hOnce hlen ⊢
  replace hn2 := Lib.hid hn2
  have hB := Lib.hid (Below.refl w.heap.size w)
  have h4z : ¬ (4096 : Int) < (n : Int) := by omega
  clear hv hz
  go_enter Tryz.func12, Tryz.ntmps12
  go_wp2_with fail
  go_loopg [12] n (fun kx s12 wr => ∃ i : Nat, s12 = .int .i64 (i : Int) ∧ i ≤ n ∧ n - i ≤ kx ∧ Hid (okQ (Ls.take i) = true) ∧ Hid (Below w.heap.size w wr))
  case atStart => exact ⟨0, rfl, Nat.zero_le _, Nat.le_refl _, Lib.hid rfl, hB⟩
  case round =>
    clear hB
    obtain ⟨i, rfl, hin, hg, hok, hB⟩ := hrel
    by_cases hlt : i < n
    case neg =>
      obtain rfl : i = n := by omega
      have hte : Ls.take i = Ls := List.take_of_length_le (by rw [hn2.out]; exact Nat.le_refl _)
      rw [hte] at hok
      have hO1 := Lib.hid (hOnce.out hok.out wr hB.out)
      have hH1 := Lib.hid (hHull.out hok.out)
      clear cOf hC0 hte hOnce hHull
      go_wp2_with fail
      refine hO1.out.mono ?_
      rintro en w4 ⟨v4, rfl, hr4, hb4⟩
      have hB4 := Lib.hid (hB.out.trans (hb4.out.mono hB.out.size))
      have hH2 := Lib.hid (hH1.out _ _ _ hr4.out)
      clear hO1 hH1 hb4 hB hr4
      go_wp2_with fail
      refine hH2.out.mono ?_
      rintro en w5 ⟨v5, rfl, hr5, hb5⟩
      have hr6 := Lib.hid (row_monoL hr5.out hB4.out.size)
      have hB5 := Lib.hid (hB4.out.trans (hb5.out.mono hB4.out.size))
      clear hH2 hb5 hB4 hr5
      go_wp2_with fail
      go_ret2
      exact .inl ⟨hok.out, _, rfl, hr6.out, hB5.out⟩
    case pos =>
      have hil : i < Ls.length := by rw [← hn2.out]; exact hlt
      have hC := hC0.out wr hB.out i hlt
      obtain ⟨⟨n1, a1, d1⟩, hr⟩ : ∃ r, r = Ls[i]! := ⟨_, rfl⟩
      rw [← hr] at hC
      have hsn : Ls.take (i + 1) = Ls.take i ++ [(n1, a1, d1)] := by
        rw [hr, List.take_add_one, List.getElem?_eq_getElem hil, getElem!_pos Ls i hil]; rfl
      have cO := Lib.hid (fun W => cOf.out i n1 a1 d1 W hlt hr.symm)
      have m0 : wr.cell? ⟨g, i * 3, none⟩ = some (.bool n1) := hC 0 _ rfl
      have m1 : wr.cell? ⟨g, i * 3 + 1, none⟩ = some (.string a1) := hC 1 _ rfl
      have m2 : wr.cell? ⟨g, i * 3 + 2, none⟩ = some (.string d1) := hC 2 _ rfl
      have hiz : (i : Int) < (n : Int) := by omega
      obtain ⟨ok, hoke⟩ : ∃ b, b = okA n1 a1 d1 := ⟨_, rfl⟩
      rw [← hoke] at cO
      have hok2 : Hid (ok = true → okQ (Ls.take (i + 1)) = true) := Lib.hid (fun h => by rw [hsn, okQ_snoc, hok.out, ← hoke, h]; rfl)
      have hbad : Hid (ok = false → okQ Ls = false) := Lib.hid (fun h => okQ_bad hil (by rw [← hr]; show okA n1 a1 d1 = false; rw [← hoke]; exact h))
      clear hC hr hsn hoke hil
      go_upto_region 6 with fail
      have kp := Lib.hid (Blk.new wr 26 #[.bool n1, .string a1, .string d1])
      replace hB := Lib.hid (hB.out.alloc hB.out.size (.cells #[.bool n1, .string a1, .string d1] 26))
      generalize hW : wr.alloc (.cells #[.bool n1, .string a1, .string d1] 26) = w5 at hB kp ⊢
      generalize hgg : wr.heap.size = gp at kp ⊢
      clear hW hgg m0 m1 m2
      have m0 : w5.cell? ⟨gp, 0, none⟩ = some (.bool n1) := kp.out.cell 0
      have m1 : w5.cell? ⟨gp, 1, none⟩ = some (.string a1) := kp.out.cell 1
      have m2 : w5.cell? ⟨gp, 2, none⟩ = some (.string d1) := kp.out.cell 2
      go_wp2_with fail
      refine (cO.out _).mono ?_
      rintro en w6 ⟨rfl, hb⟩
      replace hB := Lib.hid (hB.out.trans (hb.mono hB.out.size))
      clear hb cO m0 m1 m2 kp
      cases ok
      case false =>
        have hb2 := Lib.hid (hbad.out rfl)
        clear hok2 hbad
        simp only [Bool.false_eq_true, if_false]
        go_wp2_with fail
        go_ret2
        exact .inr ⟨hb2.out, rfl, hB.out⟩
      case true =>
        have hb2 := Lib.hid (hok2.out rfl)
        clear hok2 hbad
        simp only [if_true]
        go_wp2_with fail
        go_roundg (n - (i + 1))
        case measure => omega
        case rel => exact ⟨i + 1, by go_num, by omega, Nat.le_refl _, hb2, hB⟩
end Go.Proofs.YtoaggmegmgdgbaaGreat
