/- Package filigreeref22: At, May, Rho, Address. -/
import Derived.Test.YtbddlbhanpjdnaaGreatDoorTxt
namespace Go.Proofs.YtbddlbhanpjdnaaGreatDoor
open Go.RowKit Go.Sort

set_option maxRecDepth 100000 in
set_option maxHeartbeats 1000000 in
/-- filigreeref22.At -/
theorem ritat_any {T1 T2 : TypeId} (A1 A2 : Option Addr) (n1 c1 n2 c2 n : Nat) (P Q : List Nat) (w : World) (h1 : Rd .u8 T1 w (.slice A1 n1 c1) P) (h2 : Rd .u8 T2 w (.slice A2 n2 c2) Q)
    (hQ : 0 < Q.length) (hP9 : P.length ≤ 1099511627776) (hQ9 : Q.length ≤ 1099511627776) (hn : n ≤ 9007199254740992) :
    Calls Tryz.prog 25 #[.agg #[.slice A1 n1 c1, .slice A2 n2 c2], .int .i64 (n : Int)] w (RetVal (.int .u8 ((rowAt P Q n : Nat) : Int)) w) := by
  obtain ⟨x, hx⟩ : ∃ x, x = rowAt P Q n := ⟨_, rfl⟩
  rw [← hx]
  obtain ⟨rfl, hc1, hc1m, hcell1⟩ := rd_cells h1
  obtain ⟨rfl, hc2, hc2m, hcell2⟩ := rd_cells h2
  obtain ⟨a, ha⟩ : ∃ a, a = P.length := ⟨_, rfl⟩
  obtain ⟨b, hb⟩ : ∃ b, b = Q.length := ⟨_, rfl⟩
  have hBW : Below w.heap.size w (w.alloc (.cells #[.slice A1 a c1, .slice A2 b c2] 30)) := (Below.refl _ w).alloc (Nat.le_refl _) _
  replace hBW := Lib.hid hBW
  by_cases h0 : n < P.length
  · obtain ⟨g, off, rfl, hg, hcell⟩ := hcell1 (fun e => by rw [e] at h0; exact absurd h0 (by simp))
    have hcx : (w.alloc (.cells #[.slice (some ⟨g, off, none⟩) a c1, .slice A2 b c2] 30)).cell? ⟨g, off + n, none⟩ = some (.int .u8 (x : Int)) := by
      have e := hcell n x (by rw [hx]; exact rowAt_pre h0)
      exact (Lib.cell?_alloc_some _ e)
    rw [← ha] at h0 hc1 hP9 ⊢
    rw [← hb] at hc2 hQ hQ9 ⊢
    have h0I : (n : Int) < (a : Int) := by omega
    replace hx := Lib.hid hx
    clear hcell1 hcell2 hcell h1 h2 ha hb
    go_enter Tryz.func25, Tryz.ntmps25
    go_wp2_with fail
    go_ret
    exact ⟨rfl, hBW.out⟩
  · obtain ⟨g, off, rfl, hg, hcell⟩ := hcell2 (fun e => by rw [e] at hQ; exact absurd hQ (by simp))
    obtain ⟨j, hj⟩ : ∃ j, j = (n - P.length) % Q.length := ⟨_, rfl⟩
    obtain ⟨k, hk⟩ : ∃ k, k = n - P.length := ⟨_, rfl⟩
    have hjb : j < Q.length := by rw [hj]; exact Nat.mod_lt _ hQ
    have hcx : (w.alloc (.cells #[.slice A1 a c1, .slice (some ⟨g, off, none⟩) b c2] 30)).cell? ⟨g, off + j, none⟩ = some (.int .u8 (x : Int)) := by
      have e := hcell j x (by rw [hx, hj]; exact rowAt_per (by omega) hQ)
      exact (Lib.cell?_alloc_some _ e)
    rw [← hk] at hj
    have hji : (k : Int).tmod (b : Int) = (j : Int) := by rw [hj, hb]; exact tmod_nat _ _
    rw [← ha] at h0 hc1 hP9 hk ⊢
    rw [← hb] at hc2 hQ hQ9 hjb ⊢
    have h0I : ¬ (n : Int) < (a : Int) := by omega
    have hki : (n : Int) - (a : Int) = (k : Int) := by omega
    have hb0 : ¬ (b : Int) = 0 := by omega
    have hjI : (j : Int) < (b : Int) := by omega
    replace hx := Lib.hid hx
    replace hj := Lib.hid hj
    clear hcell1 hcell2 hcell h1 h2 ha hb hk
    go_enter Tryz.func25, Tryz.ntmps25
    go_wp2_with fail
    go_quiet (fail)
    go_wp2_with fail
    go_ret
    exact ⟨rfl, below_drewN hBW.out _⟩

theorem mayI_at {P Q : List Nat} (hQ : 0 < Q.length) (hl : P.length + Q.length ≤ 4096) (h : ∀ j, j < P.length + Q.length → symB (rowAt P Q j) = true) : mayI P Q = true := by
  have e1 : ∀ x, x ∈ P → symB x = true := fun x hx => by
    obtain ⟨j, hj⟩ := List.mem_iff_getElem?.1 hx
    have hl := lt_of_getElem? hj
    have := h j (by omega)
    have e := rowAt_pre (q := Q) hl
    rw [hj] at e
    rw [← Option.some.inj e] at this
    exact this
  have e2 : ∀ x, x ∈ Q → symB x = true := fun x hx => by
    obtain ⟨j, hj⟩ := List.mem_iff_getElem?.1 hx
    have hl := lt_of_getElem? hj
    have := h (P.length + j) (by omega)
    have e := rowAt_per (p := P) (n := P.length + j) (Nat.le_add_right _ _) hQ
    rw [Nat.add_sub_cancel_left, Nat.mod_eq_of_lt hl, hj] at e
    rw [← Option.some.inj e] at this
    exact this
  have hn : Q ≠ [] := fun e => by rw [e] at hQ; simp at hQ
  simp only [mayI, Bool.and_eq_true, List.all_eq_true, decide_eq_true_eq]
  exact ⟨⟨⟨hn, hl⟩, e1⟩, e2⟩
theorem mayI_sym {P Q : List Nat} (h : mayI P Q = true) (j : Nat) : symB (rowAt P Q j) = true := by
  obtain ⟨m1, m2, m3, m4⟩ := mayI_spec h
  rcases rowAt_mem (p := P) (q := Q) (n := j) m1 with h | h
  · exact m3 _ h
  · exact m4 _ h

set_option maxRecDepth 100000 in
set_option maxHeartbeats 1000000 in
/-- filigreeref22.May -/
theorem ritmay_any (a b : Value) (P Q : List Nat) (w : World) (h : Itn w a b P Q) : Calls Tryz.prog 22 #[.agg #[a, b]] w (RetVal (.bool (mayI P Q)) w) := by
  obtain ⟨⟨A1, n1, c1, T1, rfl, h1⟩, ⟨A2, n2, c2, T2, rfl, h2⟩, s1, s2, l1, l2⟩ := h
  obtain ⟨r, hr⟩ : ∃ r, r = mayI P Q := ⟨_, rfl⟩
  rw [← hr]
  have hBW : Below w.heap.size w (w.alloc (.cells #[.slice A1 n1 c1, .slice A2 n2 c2] 30)) := (Below.refl _ w).alloc (Nat.le_refl _) _
  have k0 := Blk.new w 30 #[.slice A1 n1 c1, .slice A2 n2 c2]
  obtain ⟨p, hp⟩ : ∃ p, p = P.length := ⟨_, rfl⟩
  obtain ⟨q, hq⟩ : ∃ q, q = Q.length := ⟨_, rfl⟩
  obtain rfl : n1 = p := by rw [hp]; exact (rd_cells h1).1
  obtain rfl : n2 = q := by rw [hq]; exact (rd_cells h2).1
  have hat := fun (k : Nat) (h0 : 0 < Q.length) (hk : k ≤ 9007199254740992) (hl : P.length + Q.length ≤ 4096) W h1 h2 => ritat_any (T1 := T1) (T2 := T2) A1 A2 n1 c1 n2 c2 k P Q W h1 h2 h0 (by omega) (by omega) hk
  have hlt : 0 < Q.length → ∀ j, rowAt P Q j < 256 := fun h0 j => by
    rcases rowAt_mem (p := P) (q := Q) (n := j) h0 with h | h
    · exact s1 _ h
    · exact s2 _ h
  rw [← hp] at l1
  rw [← hq] at l2
  rw [← hp, ← hq] at hat
  rw [← hq] at hlt
  have hR1 := Lib.hid h1
  have hR2 := Lib.hid h2
  replace hBW := Lib.hid hBW
  replace hat := Lib.hid hat
  replace hr := Lib.hid hr
  replace hp := Lib.hid hp
  replace hq := Lib.hid hq
  replace hlt := Lib.hid hlt
  clear h1 h2 s1 s2
  by_cases b0 : n2 = 0
  · obtain rfl : r = false := by
      rw [hr.out]
      cases hm : mayI P Q
      · rfl
      · have := (mayI_spec hm).1; rw [← hq.out] at this; omega
    subst b0
    replace k0 := Lib.hid k0
    go_enter Tryz.func22, Tryz.ntmps22
    go_wp2_with fail
    go_ret
    exact ⟨rfl, hBW.out⟩
  · have b0I : ((n2 : Int) == 0) = false := by rw [beq_eq_false_iff_ne]; omega
    by_cases hm : 4096 < n1 + n2
    · obtain rfl : r = false := by
        rw [hr.out]
        cases hm : mayI P Q
        · rfl
        · have := (mayI_spec hm).2.1; rw [← hp.out, ← hq.out] at this; omega
      have hmI : (4096 : Int) < (n1 : Int) + (n2 : Int) := by omega
      replace k0 := Lib.hid k0
      go_enter Tryz.func22, Tryz.ntmps22
      go_wp2_with fail
      go_ret
      exact ⟨rfl, hBW.out⟩
    · have hmI : ¬ (4096 : Int) < (n1 : Int) + (n2 : Int) := by omega
      go_enter Tryz.func22, Tryz.ntmps22
      go_wp2_with fail
      go_loopw [3, 4] (fun iv _ wr => ∃ i : Nat, iv = .int .i64 (i : Int) ∧ i ≤ n1 + n2 ∧ (∀ j, j < i → symB (rowAt P Q j) = true) ∧ Blk wr w.heap.size 30 #[.slice A1 n1 c1, .slice A2 n2 c2] ∧ Below w.heap.size w wr) (fun iv _ _ => n1 + n2 - (intOf iv).toNat)
      case atStart => exact ⟨0, rfl, Nat.zero_le _, fun j hj => by omega, k0, hBW.out⟩
      case round =>
        obtain ⟨i, rfl, hi, hlo, jb, hBr⟩ := hrel
        have a0 : wr.cell? ⟨w.heap.size, 0, none⟩ = some (.slice A1 n1 c1) := jb.cell 0
        have a1 : wr.cell? ⟨w.heap.size, 1, none⟩ = some (.slice A2 n2 c2) := jb.cell 1
        replace hlo := Lib.hid hlo
        replace hBr := Lib.hid hBr
        replace jb := Lib.hid jb
        clear k0
        by_cases h0 : i < n1 + n2
        · have h0I : (i : Int) < (n1 : Int) + (n2 : Int) := by omega
          have r1 := Lib.hid (hR1.out.below hBr.out)
          have r2 := Lib.hid (hR2.out.below hBr.out)
          go_wp2_with fail
          refine (hat.out i (by omega) (by omega) (by omega) _ r1.out r2.out).mono ?_
          rintro en w1 ⟨rfl, hb⟩
          have hB1 := Lib.hid (hBr.out.trans (hb.mono hBr.out.size))
          have jb1 := Lib.hid (Blk.below jb.out hb)
          have hx9 := hlt.out (by omega) i
          obtain ⟨x, hx⟩ : ∃ x, x = rowAt P Q i := ⟨_, rfl⟩
          rw [← hx] at hx9 ⊢
          clear hb jb hBr a0 a1 r1 r2
          cases hs : symB x
          · have hx1 : (64 : Int) ≤ (x : Int) ∧ ((x : Int) == 255) = false := by
              simp [symB] at hs
              exact ⟨by omega, by rw [beq_eq_false_iff_ne]; omega⟩
            obtain ⟨hx2, hx3⟩ := hx1
            have hx4 : ((x : Int) != 255) = true := by simp only [bne, hx3]; rfl
            obtain rfl : r = false := by
              rw [hr.out]
              cases hm : mayI P Q
              · rfl
              · have := mayI_sym hm i; rw [← hx, hs] at this; cases this
            replace hx := Lib.hid hx
            clear hs
            go_wp2_with fail
            go_ret
            exact ⟨rfl, hB1.out⟩
          · have hlo2 : Hid (∀ j, j < i + 1 → symB (rowAt P Q j) = true) := Lib.hid (fun j hj => by
              by_cases e : j = i
              · subst e; rw [← hx]; exact hs
              · exact hlo.out j (by omega))
            replace hx := Lib.hid hx
            by_cases hx1 : x < 64
            · have hx2 : ¬ (64 : Int) ≤ (x : Int) := by omega
              clear hs
              go_wp2_with fail
              go_roundw
              case rel => exact ⟨i + 1, by go_num, by omega, hlo2.out, jb1.out, hB1.out⟩
              case measure => simp [intOf]; omega
            · obtain rfl : x = 255 := by simp [symB] at hs; omega
              clear hs
              go_wp2_with fail
              go_roundw
              case rel => exact ⟨i + 1, by go_num, by omega, hlo2.out, jb1.out, hB1.out⟩
              case measure => simp [intOf]; omega
        · obtain rfl : i = n1 + n2 := by omega
          have h0I : ¬ ((n1 + n2 : Nat) : Int) < (n1 : Int) + (n2 : Int) := by omega
          obtain rfl : r = true := by
            rw [hr.out]
            exact mayI_at (by rw [← hq.out]; omega) (by rw [← hp.out, ← hq.out]; omega) (fun j hj => hlo.out j (by rw [hp.out, hq.out]; exact hj))
          go_wp2_with fail
          go_ret
          exact ⟨rfl, hBr.out⟩

theorem adr_start {P Q : List Nat} {m : Nat} (hm : 1 ≤ m) : adr P Q m = adrF P Q m (m + 1 - 1) (rhoN P Q 1) [1] := by
  rw [adr, adrF_step (by omega) (by simp; omega)]
  rfl

end Go.Proofs.YtbddlbhanpjdnaaGreatDoor
