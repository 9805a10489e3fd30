/- Package filigreeref22: show, Text, symbol. -/
import Derived.Test.YtbddlbhanpjdnaaGreatDoorRead
namespace Go.Proofs.YtbddlbhanpjdnaaGreatDoor
open Go.RowKit Go.Sort

set_option maxRecDepth 100000 in
/-- filigreeref22.show -/
theorem rshow_any (x : Nat) (w : World) (hx : symB x = true) : Calls Tryz.prog 51 #[.int .u8 (x : Int)] w (RetVal (.string (mkS (wordL x))) w) := by
  by_cases h : x = 255
  · subst h
    go_enter Tryz.func51, Tryz.ntmps51
    go_wp2_with fail
    go_ret
    exact ⟨rfl, Below.refl _ _⟩
  · have hI : ((x : Int) == 255) = false := by rw [beq_eq_false_iff_ne]; omega
    have hxs : x < 64 := by simp [symB] at hx; omega
    have hw : wrap64 (x : Int) = (x : Int) := wrap64_nat (by omega)
    have hv := Lib.hid (dec_word x hxs)
    go_enter Tryz.func51, Tryz.ntmps51
    go_wp2_with fail
    refine (Tryz.strconv_Itoa_small x (by omega) _).mono ?_
    rintro e w1 ⟨rfl, rfl⟩
    rw [hv.out]
    go_wp2_with fail
    go_ret
    exact ⟨rfl, Below.refl _ _⟩

/-- The period's text, its bracket opened. -/
def perX (l : List Nat) : List Nat := if l = [] then [40] else perW l
theorem perX_one (x : Nat) : perX ([] ++ [x]) = perX [] ++ wordL x := by simp [perX, perW]
theorem perX_snoc {l : List Nat} {x : Nat} (h : l ≠ []) : perX (l ++ [x]) = perX l ++ [32] ++ wordL x := by
  simp only [perX, h, if_false]
  rw [if_neg (by simp), perW_snoc _ _ h]
theorem perX_len (l : List Nat) : (perX l).length ≤ 3 * l.length + 1 := by
  unfold perX
  split
  · simp
  · have := perW_len l; omega
theorem run_add_mkS (l m : List Nat) (h : l.length + m.length ≤ 9223372036854775807) (W : World) : (Op.stringOp .add (mkS l) (mkS m)).run Tryz.prog W = .ok (.string (mkS (l ++ m))) W := by
  rw [run_string_add_sum _ _ _ (by rw [mkS_size, mkS_size]; exact h), mkS_append]

set_option maxRecDepth 100000 in
set_option maxHeartbeats 2000000 in
/-- filigreeref22.Text -/
theorem rText_any (a b : Value) (P Q : List Nat) (w : World) (h : Itn w a b P Q) (hm : mayI P Q = true) :
    Calls Tryz.prog 27 #[.agg #[a, b]] w (RetVal (.string (mkS (textL P Q))) w) := by
  obtain ⟨⟨A1, n1, c1, T1, rfl, h1⟩, ⟨A2, n2, c2, T2, rfl, h2⟩, -, -, -, -⟩ := h
  have hBW : Below w.heap.size w (w.alloc (.cells #[.slice A1 n1 c1, .slice A2 n2 c2] 30)) := (Below.refl _ w).alloc (Nat.le_refl _) _
  have k0 := Blk.new w 30 #[.slice A1 n1 c1, .slice A2 n2 c2]
  obtain ⟨p, hp⟩ : ∃ p, p = P.length := ⟨_, rfl⟩
  obtain ⟨q, hq⟩ : ∃ q, q = Q.length := ⟨_, rfl⟩
  obtain rfl : n1 = p := by rw [hp]; exact (rd_cells h1).1
  obtain rfl : n2 = q := by rw [hq]; exact (rd_cells h2).1
  obtain ⟨m1, m2, m3, m4⟩ := mayI_spec hm
  rw [← hp, ← hq] at m2
  rw [← hq] at m1
  have hR1 := Lib.hid h1
  have hR2 := Lib.hid h2
  replace hBW := Lib.hid hBW
  replace k0 := Lib.hid k0
  replace hp := Lib.hid hp
  replace hq := Lib.hid hq
  replace m3 := Lib.hid m3
  replace m4 := Lib.hid m4
  clear h1 h2 hm
  go_enter Tryz.func27, Tryz.ntmps27
  go_wp2_with fail
  go_loopw [3, 4] (fun ov iv wr => ∃ i : Nat, iv = .int .i64 (i : Int) ∧ i ≤ n1 ∧ ov = .string (mkS (preW (P.take i))) ∧ Blk wr w.heap.size 30 #[.slice A1 n1 c1, .slice A2 n2 c2] ∧ Below w.heap.size w wr) (fun _ iv _ => n1 - (intOf iv).toNat)
  case atStart => exact ⟨0, rfl, Nat.zero_le _, rfl, k0.out, hBW.out⟩
  case round =>
    obtain ⟨i, rfl, hi, rfl, jb, hBr⟩ := hrel
    have a0 : wr.cell? ⟨w.heap.size, 0, none⟩ = some (.slice A1 n1 c1) := jb.cell 0
    have a1 : wr.cell? ⟨w.heap.size, 1, none⟩ = some (.slice A2 n2 c2) := jb.cell 1
    replace hBr := Lib.hid hBr
    replace jb := Lib.hid jb
    clear k0
    by_cases h0 : i < n1
    · have h0I : (i : Int) < (n1 : Int) := by omega
      obtain ⟨g, off, rfl, -, hc⟩ := (rd_cells (hR1.out.below hBr.out)).2.2.2 (fun e => by rw [hp.out, e] at h0; simp at h0)
      obtain ⟨x, hx⟩ : ∃ x, P[i]? = some x := ⟨_, List.getElem?_eq_getElem (by rw [← hp.out]; exact h0)⟩
      have c0 : wr.cell? ⟨g, off + i, none⟩ = some (.int .u8 (x : Int)) := hc i x hx
      have hsx := Lib.hid (m3.out x (List.mem_of_getElem? hx))
      have htk := take_next hx
      have hl := preW_len (P.take i)
      have hl2 : (P.take i).length ≤ i := List.length_take_le _ _
      have hl3 := wordL_len x
      obtain ⟨D, hD⟩ : ∃ D, D = preW (P.take i) := ⟨_, rfl⟩
      rw [← hD] at hl ⊢
      have hadd1 := run_add_mkS D (wordL x) (by omega)
      have hadd2 : ∀ W, (Op.stringOp .add (mkS (D ++ wordL x)) ⟨#[32]⟩).run Tryz.prog W = .ok (.string (mkS (D ++ wordL x ++ [32]))) W := run_add_mkS (D ++ wordL x) [32] (by rw [List.length_append]; simp only [List.length_cons, List.length_nil]; omega)
      have hnx0 : D ++ wordL x ++ [32] = preW (P.take (i + 1)) := by rw [htk, preW_snoc, hD, List.append_assoc]
      obtain ⟨D3, hD3⟩ : ∃ D3, D3 = D ++ wordL x ++ [32] := ⟨_, rfl⟩
      rw [← hD3] at hadd2 hnx0
      obtain ⟨D2, hD2⟩ : ∃ D2, D2 = D ++ wordL x := ⟨_, rfl⟩
      rw [← hD2] at hadd1 hadd2
      have hnx := Lib.hid hnx0
      replace hD2 := Lib.hid hD2
      replace hD3 := Lib.hid hD3
      clear hnx0
      replace hx := Lib.hid hx
      replace hD := Lib.hid hD
      clear hc hl2 hl3 hl htk
      go_wp2_with fail
      refine (rshow_any x _ hsx.out).mono ?_
      rintro e w2 ⟨rfl, hb⟩
      have jb2 := Lib.hid (Blk.below jb.out hb)
      have hB2 := Lib.hid (hBr.out.trans (hb.mono hBr.out.size))
      clear hb c0 a0 a1
      go_wp2_with fail
      go_roundw
      case rel => exact ⟨i + 1, by go_num, by omega, by rw [← hnx.out], jb2.out, hB2.out⟩
      case measure => simp [intOf]; omega
    · obtain rfl : i = n1 := by omega
      have h0I : ¬ (i : Int) < (i : Int) := by omega
      have hP : P.take i = P := by rw [hp.out, List.take_length]
      have hl := preW_len P
      have hpl : P.length ≤ 4096 := by rw [← hp.out]; omega
      rw [hP]
      obtain ⟨D, hD⟩ : ∃ D, D = preW P := ⟨_, rfl⟩
      rw [← hD] at hl ⊢
      have hadd : ∀ W, (Op.stringOp .add (mkS D) ⟨#[40]⟩).run Tryz.prog W = .ok (.string (mkS (D ++ [40]))) W := run_add_mkS D [40] (by simp only [List.length_cons, List.length_nil]; omega)
      have hDl : Hid (D.length ≤ 12288) := Lib.hid (by omega)
      replace hD := Lib.hid hD
      replace hP := Lib.hid hP
      clear hl hpl
      go_wp2_with fail
      go_loopw [3, 5] (fun ov jv wr => ∃ j : Nat, jv = .int .i64 (j : Int) ∧ j ≤ n2 ∧ ov = .string (mkS (D ++ perX (Q.take j))) ∧ Blk wr w.heap.size 30 #[.slice A1 i c1, .slice A2 n2 c2] ∧ Below w.heap.size w wr) (fun _ jv _ => n2 - (intOf jv).toNat)
      case atStart => exact ⟨0, rfl, Nat.zero_le _, rfl, jb.out, hBr.out⟩
      case round =>
        clear a0 a1 jb hBr hadd
        obtain ⟨j, rfl, hj, rfl, jb, hBr⟩ := hrel
        have a0 : wr.cell? ⟨w.heap.size, 0, none⟩ = some (.slice A1 i c1) := jb.cell 0
        have a1 : wr.cell? ⟨w.heap.size, 1, none⟩ = some (.slice A2 n2 c2) := jb.cell 1
        replace hBr := Lib.hid hBr
        replace jb := Lib.hid jb
        have hl2 := perX_len (Q.take j)
        have hl3 : (Q.take j).length ≤ j := List.length_take_le _ _
        by_cases h1 : j < n2
        · have h1I : (j : Int) < (n2 : Int) := by omega
          obtain ⟨g, off, rfl, -, hc⟩ := (rd_cells (hR2.out.below hBr.out)).2.2.2 (fun e => by rw [hq.out, e] at h1; simp at h1)
          obtain ⟨x, hx⟩ : ∃ x, Q[j]? = some x := ⟨_, List.getElem?_eq_getElem (by rw [← hq.out]; exact h1)⟩
          have c0 : wr.cell? ⟨g, off + j, none⟩ = some (.int .u8 (x : Int)) := hc j x hx
          have hsx := Lib.hid (m4.out x (List.mem_of_getElem? hx))
          have htk := take_next hx
          have hl4 := wordL_len x
          have hKl : (D ++ perX (Q.take j)).length ≤ 30000 := by have := hDl.out; rw [List.length_append]; omega
          obtain ⟨K, hK⟩ : ∃ K, K = D ++ perX (Q.take j) := ⟨_, rfl⟩
          rw [← hK] at hKl ⊢
          have hDl2 := hDl.out
          by_cases e : j = 0
          · subst e
            rw [Nat.add_zero] at c0
            have hadd1 := run_add_mkS K (wordL x) (by omega)
            have hnx0 : K ++ wordL x = D ++ perX (Q.take (0 + 1)) := by rw [htk, hK, List.append_assoc, List.take_zero, perX_one]
            obtain ⟨K2, hK2⟩ : ∃ K2, K2 = K ++ wordL x := ⟨_, rfl⟩
            rw [← hK2] at hadd1 hnx0
            have hnx := Lib.hid hnx0
            replace hK2 := Lib.hid hK2
            clear hnx0
            replace hx := Lib.hid hx
            replace hK := Lib.hid hK
            clear hc hl2 hl3 hl4 htk hDl2 hKl
            go_wp2_with fail
            refine (rshow_any x _ hsx.out).mono ?_
            rintro e w2 ⟨rfl, hb⟩
            have jb2 := Lib.hid (Blk.below jb.out hb)
            have hB2 := Lib.hid (hBr.out.trans (hb.mono hBr.out.size))
            clear hb c0 a0 a1
            go_wp2_with fail
            go_roundw
            case rel => exact ⟨0 + 1, by go_num, by omega, by rw [← hnx.out], jb2.out, hB2.out⟩
            case measure => simp [intOf]; omega
          · have eI : (0 : Int) < (j : Int) := by omega
            have hadd1 : ∀ W, (Op.stringOp .add (mkS K) ⟨#[32]⟩).run Tryz.prog W = .ok (.string (mkS (K ++ [32]))) W := run_add_mkS K [32] (by simp only [List.length_cons, List.length_nil]; omega)
            have hadd2 := run_add_mkS (K ++ [32]) (wordL x) (by rw [List.length_append]; simp only [List.length_cons, List.length_nil]; omega)
            have hnx0 : K ++ [32] ++ wordL x = D ++ perX (Q.take (j + 1)) := by
              rw [htk, perX_snoc (fun h => by have := congrArg List.length h; rw [List.length_take, ← hq.out] at this; simp at this; omega), hK]
              simp
            obtain ⟨K3, hK3⟩ : ∃ K3, K3 = K ++ [32] ++ wordL x := ⟨_, rfl⟩
            rw [← hK3] at hadd2 hnx0
            obtain ⟨K2, hK2⟩ : ∃ K2, K2 = K ++ [32] := ⟨_, rfl⟩
            rw [← hK2] at hadd1 hadd2
            have hnx := Lib.hid hnx0
            replace hK2 := Lib.hid hK2
            replace hK3 := Lib.hid hK3
            clear hnx0
            replace hx := Lib.hid hx
            replace hK := Lib.hid hK
            clear hc hl2 hl3 hl4 htk hDl2 hKl
            go_wp2_with fail
            refine (rshow_any x _ hsx.out).mono ?_
            rintro e w2 ⟨rfl, hb⟩
            have jb2 := Lib.hid (Blk.below jb.out hb)
            have hB2 := Lib.hid (hBr.out.trans (hb.mono hBr.out.size))
            clear hb c0 a0 a1
            go_wp2_with fail
            go_roundw
            case rel => exact ⟨j + 1, by go_num, by omega, by rw [← hnx.out], jb2.out, hB2.out⟩
            case measure => simp [intOf]; omega
        · obtain rfl : j = n2 := by omega
          have h1I : ¬ (j : Int) < (j : Int) := by omega
          have hQ : Q.take j = Q := by rw [hq.out, List.take_length]
          rw [hQ] at hl2 ⊢
          have hDl2 := hDl.out
          have hql : Q.length = j := hq.out.symm
          have hadd : ∀ W, (Op.stringOp .add (mkS (D ++ perX Q)) ⟨#[41]⟩).run Tryz.prog W = .ok (.string (mkS (D ++ perX Q ++ [41]))) W := run_add_mkS (D ++ perX Q) [41] (by rw [List.length_append]; simp only [List.length_cons, List.length_nil]; omega)
          have hfin0 : D ++ perX Q ++ [41] = textL P Q := by
            rw [textL, hD.out, perX, if_neg (fun e => by rw [e] at hql; simp at hql; omega)]
          rw [hfin0] at hadd
          obtain ⟨K, hK⟩ : ∃ K, K = D ++ perX Q := ⟨_, rfl⟩
          rw [← hK] at hadd ⊢
          obtain ⟨Z, hZ⟩ : ∃ Z, Z = textL P Q := ⟨_, rfl⟩
          rw [← hZ] at hadd ⊢
          replace hK := Lib.hid hK
          replace hZ := Lib.hid hZ
          clear hfin0
          replace hQ := Lib.hid hQ
          replace hql := Lib.hid hql
          clear hl2 hl3 hDl2
          go_wp2_with fail
          go_ret
          exact ⟨by rw [← hZ.out]; rfl, hBr.out⟩

/-- What a word says; -1: it is none. -/
def symF : List Nat → Nat → Option Nat
  | [], n => some n
  | c :: l, n => if c < 48 ∨ 57 < c then none else symF l (min (10 * n + (c - 48)) 64)
def symW (l : List Nat) : Int :=
  if l = [42] then 255 else match symF l 0 with
    | none => -1
    | some n => if l = [] ∨ 64 ≤ n then -1 else (n : Int)
theorem symF_le : ∀ (l : List Nat) (n m : Nat), n ≤ 64 → symF l n = some m → m ≤ 64
  | [], n, m, h, e => by injection e with e; omega
  | c :: l, n, m, h, e => by
    unfold symF at e
    split at e
    · cases e
    · exact symF_le l _ m (Nat.min_le_right _ _) e
theorem symW_bound (l : List Nat) : symW l = -1 ∨ (0 ≤ symW l ∧ symW l ≤ 255) := by
  unfold symW
  split
  · exact .inr (by omega)
  · split
    · exact .inl rfl
    · rename_i n h
      split
      · exact .inl rfl
      · have := symF_le l 0 n (by omega) h
        exact .inr (by omega)
theorem symW_word {x : Nat} (h : symB x = true) : symW (wordL x) = x := by
  have hx : x < 64 ∨ x = 255 := by simp [symB] at h; exact h
  rcases hx with hx | rfl
  · have hall : ((List.range 64).all fun x => decide (symW (wordL x) = (x : Int))) = true := by kernel_rfl
    exact of_decide_eq_true (List.all_eq_true.1 hall x (List.mem_range.2 hx))
  · rfl

theorem symF_drop {l : List Nat} {i c n : Nat} (h : l[i]? = some c) : symF (l.drop i) n = if c < 48 ∨ 57 < c then none else symF (l.drop (i + 1)) (min (10 * n + (c - 48)) 64) := by
  have hi := lt_of_getElem? h
  rw [List.drop_eq_getElem_cons hi]
  rw [List.getElem?_eq_getElem hi] at h
  rw [Option.some.inj h]
  rfl

set_option maxRecDepth 100000 in
set_option maxHeartbeats 2000000 in
/-- filigreeref22.symbol -/
theorem rsymbol_any (s : ByteArray) (w : World) (hs : s.size ≤ 1000000) : Calls Tryz.prog 53 #[.string s] w fun e w' => e = .returned (.int .i64 (symW (sl s))) ∧ w' = w := by
  obtain ⟨r, hr⟩ : ∃ r, r = symW (sl s) := ⟨_, rfl⟩
  rw [← hr]
  have hlen := Lib.hid (sl_len s)
  by_cases h42 : sl s = [42]
  · obtain rfl : r = 255 := by rw [hr, symW, if_pos h42]
    obtain rfl : s = ⟨#[42]⟩ := sl_inj h42
    clear hr h42 hlen
    have hb : ((⟨#[42]⟩ : ByteArray).toList == (⟨#[42]⟩ : ByteArray).toList) = true := by simp
    go_enter Tryz.func53, Tryz.ntmps53
    go_wp2_with fail
    go_ret
    exact ⟨rfl, rfl⟩
  · have hb : (s.toList == ([42] : List UInt8)) = false := by
      rw [beq_eq_false_iff_ne]
      intro e
      have e3 : s = ⟨#[42]⟩ := toList_inj (by rw [e, ByteArray.toList_eq])
      exact h42 (by rw [e3]; rfl)
    have hr2 : Hid (r = match symF (sl s) 0 with | none => -1 | some n => if sl s = [] ∨ 64 ≤ n then -1 else (n : Int)) := Lib.hid (by rw [hr, symW, if_neg h42])
    clear hr h42
    go_enter Tryz.func53, Tryz.ntmps53
    go_wp2_with fail
    go_loopw [3, 4] (fun nv iv wr => ∃ (i n : Nat), nv = .int .i64 (n : Int) ∧ iv = .int .i64 (i : Int) ∧ i ≤ s.size ∧ n ≤ 64 ∧ symF (sl s) 0 = symF ((sl s).drop i) n ∧ wr = w) (fun _ iv _ => s.size - (intOf iv).toNat)
    case atStart => exact ⟨0, 0, rfl, rfl, Nat.zero_le _, by omega, rfl, rfl⟩
    case round =>
      obtain ⟨i, n, rfl, rfl, hi, hn, hF, rfl⟩ := hrel
      by_cases h0 : i < s.size
      · have h0I : (i : Int) < (s.size : Int) := by omega
        have hx := sl_get s i h0
        rw [symF_drop hx] at hF
        obtain ⟨c, hc⟩ : ∃ c, c = (s[i]'h0).toNat := ⟨_, rfl⟩
        have hc9 : c < 256 := by rw [hc]; exact (s[i]'h0).toNat_lt
        have hcx : (((s[i]'h0).toNat : Nat) : Int) = (c : Int) := by rw [hc]
        rw [← hc] at hF
        replace hc := Lib.hid hc
        replace hF := Lib.hid hF
        clear hx
        by_cases h1 : c < 48
        · have h1I : (c : Int) < 48 := by omega
          obtain rfl : r = -1 := by
            have := hF.out
            rw [if_pos (.inl h1)] at this
            rw [hr2.out, this]
          go_wp2_with fail
          go_ret
          exact ⟨rfl, rfl⟩
        · have h1I : ¬ (c : Int) < 48 := by omega
          by_cases h2 : 57 < c
          · have h2I : (57 : Int) < (c : Int) := by omega
            obtain rfl : r = -1 := by
              have := hF.out
              rw [if_pos (.inr h2)] at this
              rw [hr2.out, this]
            go_wp2_with fail
            go_ret
            exact ⟨rfl, rfl⟩
          · have h2I : ¬ (57 : Int) < (c : Int) := by omega
            have hnx := hF.out
            rw [if_neg (by omega)] at hnx
            replace hnx := Lib.hid hnx
            go_wp2_with fail
            go_roundw
            case rel => exact ⟨i + 1, min (10 * n + (c - 48)) 64, by congr 1; omega, by go_num, by omega, Nat.min_le_right _ _, hnx.out, by first | rfl | trivial⟩
            case measure => simp [intOf]; omega
      · obtain rfl : i = s.size := by omega
        have h0I : ¬ ((s.size : Nat) : Int) < (s.size : Int) := by omega
        rw [← hlen.out, List.drop_length] at hF
        replace hF := Lib.hid hF
        by_cases he : s.size = 0
        · have e0 : s.toList = [] := by
            rw [ByteArray.toList_eq]
            exact List.length_eq_zero_iff.1 (by rw [Array.length_toList]; exact he)
          have e1 : s.toList.isEmpty = true := by rw [e0]; rfl
          have e2 : (s.toList == ([] : List UInt8)) = true := by rw [e0]; rfl
          obtain rfl : r = -1 := by
            rw [hr2.out, hF.out]
            have : sl s = [] := List.length_eq_zero_iff.1 (by rw [hlen.out]; exact he)
            simp [symF, this]
          go_wp2_with fail
          go_ret
          exact ⟨rfl, rfl⟩
        · have e0 : ¬ s.toList = [] := by
            rw [ByteArray.toList_eq]
            intro e
            have := congrArg List.length e
            rw [Array.length_toList] at this
            exact he this
          have e1 : s.toList.isEmpty = false := by cases h : s.toList with | nil => exact absurd h e0 | cons _ _ => rfl
          have e2 : (s.toList == ([] : List UInt8)) = false := by rw [beq_eq_false_iff_ne]; exact e0
          have hne : ¬ sl s = [] := fun e => he (by rw [← hlen.out, e]; rfl)
          by_cases h64 : 64 ≤ n
          · have h64I : (64 : Int) ≤ (n : Int) := by omega
            obtain rfl : r = -1 := by rw [hr2.out, hF.out]; simp [symF, hne, h64]
            clear hne
            go_wp2_with fail
            go_ret
            exact ⟨rfl, rfl⟩
          · have h64I : ¬ (64 : Int) ≤ (n : Int) := by omega
            obtain rfl : r = (n : Int) := by rw [hr2.out, hF.out]; simp [symF, hne, h64]
            clear hne
            go_wp2_with fail
            go_ret
            exact ⟨rfl, rfl⟩
end Go.Proofs.YtbddlbhanpjdnaaGreatDoor
