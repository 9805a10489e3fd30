/- Package filigreeref22: Row, Lowest. -/
import Derived.Test.YtbddlbhanpjdnaaGreatDoorItS
import Derived.Deep.RegionHeld3
import Derived.Deep.CutBlock
namespace Go.Proofs.YtbddlbhanpjdnaaGreatDoor
open Go.RowKit Go.Sort

/-- A row of one's own: what a call hands back. -/
def RetOwn (l : List Nat) (w : World) (e : Ending) (w' : World) : Prop := ∃ v, e = .returned v ∧ w'.ownsRow w.heap.size 5 1 v l.length (ivs .u8 l) ∧ Below w.heap.size w w'

set_option maxRecDepth 100000 in
set_option maxHeartbeats 2000000 in
/-- filigreeref22.Row -/
theorem rRow_any (a b : Value) (P Q : List Nat) (fr n : Nat) (w : World) (h : Itn w a b P Q) (hQ : 0 < Q.length) (hP9 : P.length ≤ 1000000) (hQ9 : Q.length ≤ 1000000) (hf : fr ≤ 1000000) (hn : n ≤ 1000000) :
    Calls Tryz.prog 47 #[.agg #[a, b], .int .i64 (fr : Int), .int .i64 (n : Int)] w (RetOwn (rowL P Q fr n) w) := by
  obtain ⟨i0, hi, hz0, hz1, hz2⟩ := info_parts info_u8
  obtain ⟨⟨A1, n1, c1, T1, rfl, h1⟩, ⟨A2, n2, c2, T2, rfl, h2⟩, -, -, -, -⟩ := h
  have hat : Hid (∀ (k : Nat), k ≤ 9000000 → ∀ W, Below w.heap.size w W → Calls Tryz.prog 25 #[.agg #[.slice A1 n1 c1, .slice A2 n2 c2], .int .i64 (k : Int)] W (RetVal (.int .u8 ((rowAt P Q k : Nat) : Int)) W)) := Lib.hid (fun k hk W hb =>
    ritat_any (T1 := T1) (T2 := T2) A1 A2 n1 c1 n2 c2 k P Q W (h1.below hb) (h2.below hb) hQ (by omega) (by omega) (by omega))
  have hBW : Below w.heap.size w (w.alloc (.cells #[.slice A1 n1 c1, .slice A2 n2 c2] 30)) := (Below.refl _ w).alloc (Nat.le_refl _) _
  have k0 := Blk.new w 30 #[.slice A1 n1 c1, .slice A2 n2 c2]
  have ho0 : (w.alloc (.cells #[.slice A1 n1 c1, .slice A2 n2 c2] 30)).ownsRow (w.heap.size + 1) 5 1 (.slice none 0 0) 0 (ivs .u8 (rowL P Q fr 0)) := World.ownsRow_nil _ _ _ _
  clear h1 h2 hP9 hQ9
  go_enter Tryz.func47, Tryz.ntmps47
  go_wp2_with fail
  go_loopw [7, 8] (fun v iv wr => ∃ i : Nat, iv = .int .i64 (i : Int) ∧ i ≤ n ∧ wr.ownsRow (w.heap.size + 1) 5 1 v i (ivs .u8 (rowL P Q fr i)) ∧ Blk wr w.heap.size 30 #[.slice A1 n1 c1, .slice A2 n2 c2] ∧ Below w.heap.size w wr) (fun _ iv _ => n - (intOf iv).toNat)
  case atStart => exact ⟨0, rfl, Nat.zero_le _, ho0, k0, hBW⟩
  case round =>
    clear k0 hBW ho0
    obtain ⟨i, rfl, hi9, ho, kb, hB⟩ := hrel
    obtain ⟨vA, vc, rfl⟩ : ∃ A c, u7 = .slice A i c := by
      rcases own_forms ho with ⟨e, e2⟩ | ⟨g, c, e⟩
      · exact ⟨none, 0, by rw [e, e2]⟩
      · exact ⟨_, _, e⟩
    replace ho := Lib.hid ho
    replace hB := Lib.hid hB
    by_cases hlo : i < n
    · have hloI : (i : Int) < (n : Int) := by omega
      have a0 : wr.cell? ⟨w.heap.size, 0, none⟩ = some (.slice A1 n1 c1) := kb.cell 0
      have a1 : wr.cell? ⟨w.heap.size, 1, none⟩ = some (.slice A2 n2 c2) := kb.cell 1
      replace kb := Lib.hid kb
      obtain ⟨k, hk⟩ : ∃ k, k = fr + i := ⟨_, rfl⟩
      have hkI : (fr : Int) + (i : Int) = (k : Int) := by omega
      have hk9 : k ≤ 9000000 := by omega
      replace hk := Lib.hid hk
      go_wp2_with fail
      refine (hat.out k hk9 _ hB.out).mono ?_
      rintro en w4 ⟨rfl, hb⟩
      obtain ⟨x, hx⟩ : ∃ x, x = rowAt P Q k := ⟨_, rfl⟩
      rw [← hx]
      replace hB := Lib.hid (hB.out.trans (hb.mono hB.out.size))
      replace kb := Lib.hid (Blk.below kb.out hb)
      replace ho := Lib.hid (own_below ho.out hb)
      have hnx : Hid (ivs .u8 (rowL P Q fr i) ++ [.int .u8 (x : Int)] = ivs .u8 (rowL P Q fr (i + 1))) := Lib.hid (by rw [rowL_succ, ← hk.out, ← hx, ivs_append]; rfl)
      replace hx := Lib.hid hx
      have hgw := kb.out.lt
      clear hb a0 a1
      go_wp2_with (at_builtin; refine wpList_append_own _ rfl _ _ 28 rfl (w.heap.size + 1) 5 i0 (.int .u8 0) 1 1 Tryz.underlying28 hi hz0 hz1 hz2 rfl (by decide) _ _ _ rfl (ho.out.alloc _) ⟨w4.heap.size, 0, none⟩ 1 1 [.int .u8 (x : Int)] rfl rfl ?d1 ?d2 ?d3 ?d4 ?d5 ?_)
      case d1 => exact cell_one_new _ _ _
      case d2 => intro u hu; simp at hu; rw [hu]; rfl
      case d3 => unfold maxLen; omega
      case d4 => omega
      case d5 => simp; omega
      intro v' w3 hown' hgrow _
      have hB3 : Below w.heap.size w w3 := (hB.out.alloc hB.out.size _).grown hgrow (by have := hB.out.size; simp; omega) (fun k hk => by have := (ho.out.lt k hk).1; omega)
      have kb3 : Blk w3 w.heap.size 30 #[.slice A1 n1 c1, .slice A2 n2 c2] := Blk.grown (kb.out.alloc _) hgrow (fun e => by have := (ho.out.lt _ e.symm).1; omega)
      rw [hnx.out] at hown'
      replace hown' := Lib.hid hown'
      replace hB3 := Lib.hid hB3
      replace kb3 := Lib.hid kb3
      clear hgrow ho hB kb hgw
      go_wp2_with fail
      go_roundw
      case rel => exact ⟨i + 1, by go_num, by omega, hown'.out, kb3.out, hB3.out⟩
      case measure => simp [intOf]; omega
    · obtain rfl : i = n := by omega
      have hloI : ¬ (i : Int) < (i : Int) := by omega
      clear kb
      go_wp2_with fail
      go_ret
      exact ⟨_, rfl, by rw [rowL_len]; exact own_le ho.out (by omega), hB.out⟩

/-- So far a stretch of m makes the list. -/
def perI (q : List Nat) (m i : Nat) : Bool := decide (q.length % m = 0) && (List.range i).all fun j => decide (q.getD j 0 = q.getD (j % m) 0)
theorem perI_all (q : List Nat) (m : Nat) : perI q m q.length = per q m := rfl
theorem perI_zero (q : List Nat) (m : Nat) : perI q m 0 = decide (q.length % m = 0) := by simp [perI]
theorem perI_step {q : List Nat} {m i : Nat} (h : perI q m i = true) : perI q m (i + 1) = decide (q.getD i 0 = q.getD (i % m) 0) := by
  unfold perI at h ⊢
  simp only [Bool.and_eq_true] at h
  rw [List.range_succ, List.all_append, h.1, h.2]
  simp
theorem perI_no {q : List Nat} {m i : Nat} (hi : i ≤ q.length) (h : perI q m i = false) : per q m = false := by
  cases hp : per q m
  · rfl
  · obtain ⟨p1, p2⟩ := per_iff.1 hp
    have : perI q m i = true := by
      unfold perI
      simp only [Bool.and_eq_true, List.all_eq_true, decide_eq_true_eq, List.mem_range]
      exact ⟨p1, fun j hj => p2 j (by omega)⟩
    rw [h] at this
    cases this
theorem own_forms3 {w : World} {base : Nat} {T : TypeId} {size : Nat} {v : Value} {n : Nat} {xs : List Value} (h : w.ownsRow base T size v n xs) : ∃ A c, v = .slice A n c := by
  rcases own_forms h with ⟨e, e2⟩ | ⟨g, c, e⟩
  · exact ⟨none, 0, by rw [e, e2]⟩
  · exact ⟨_, _, e⟩
def RetPQf (P Q : List Nat) (w : World) (e : Ending) (w' : World) : Prop :=
  ∃ v1 v2, e = .returned (.agg #[v1, v2]) ∧ Pf w' w.heap.size v1 P ∧ Pf w' w.heap.size v2 Q ∧ Below w.heap.size w w'

set_option maxRecDepth 100000 in
set_option maxHeartbeats 4000000 in
/-- filigreeref22.Lowest -/
theorem rLowest_any (a b : Value) (P Q : List Nat) (w : World) (h : Itn w a b P Q) (hQ : 0 < Q.length) (hP9 : P.length ≤ 100000) (hQ9 : Q.length ≤ 100000) :
    Calls Tryz.prog 23 #[.agg #[a, b]] w (RetPQf (lowP P Q) (lowQ P Q) w) := by
  have hI0 := h
  obtain ⟨⟨A1, n1, c1, T1, rfl, h1⟩, ⟨A2, n2, c2, T2, rfl, h2⟩, -, -, -, -⟩ := h
  have hI : Hid (∀ W, Below w.heap.size w W → Itn W (.slice A1 n1 c1) (.slice A2 n2 c2) P Q) := Lib.hid (fun W hb => hI0.below hb)
  have e1 := (rd_cells h1).1
  have e2 := (rd_cells h2).1
  have hat : Hid (∀ (k : Nat), k ≤ 9000000 → ∀ W, Below w.heap.size w W → Calls Tryz.prog 25 #[.agg #[.slice A1 n1 c1, .slice A2 n2 c2], .int .i64 (k : Int)] W (RetVal (.int .u8 ((rowAt P Q k : Nat) : Int)) W)) := Lib.hid (fun k hk W hb =>
    ritat_any (T1 := T1) (T2 := T2) A1 A2 n1 c1 n2 c2 k P Q W (h1.below hb) (h2.below hb) hQ (by omega) (by omega) (by omega))
  have hrow : Hid (∀ (f n : Nat), f ≤ 100000 → n ≤ 100000 → ∀ W, Below w.heap.size w W → Calls Tryz.prog 47 #[.agg #[.slice A1 n1 c1, .slice A2 n2 c2], .int .i64 (f : Int), .int .i64 (n : Int)] W (RetOwn (rowL P Q f n) W)) := Lib.hid (fun f n hf hn W hb =>
    rRow_any _ _ P Q f n W (hI.out W hb) hQ (by omega) (by omega) (by omega) (by omega))
  obtain ⟨gq, off, rfl, hg, hcell⟩ := (rd_cells h2).2.2.2 (fun e => by rw [e] at hQ; simp at hQ)
  have hc2 := (rd_cells h2).2.1
  have hcq : Hid (∀ W, Below w.heap.size w W → ∀ j x : Nat, Q[j]? = some x → W.cell? ⟨gq, off + j, none⟩ = some (.int .u8 (x : Int))) := Lib.hid (fun W hb j x hx => (hb.cell (p := ⟨gq, off + j, none⟩) hg).trans (hcell j x hx))
  have hBW : Below w.heap.size w ((w.alloc (.cells #[.slice A1 n1 c1, .slice (some ⟨gq, off, none⟩) n2 c2] 30)).alloc (.cells #[.slice none 0 0, .slice none 0 0] 30)) := ((Below.refl _ w).alloc (Nat.le_refl _) _).alloc (by simp) _
  have k0 := (Blk.new w 30 #[.slice A1 n1 c1, .slice (some ⟨gq, off, none⟩) n2 c2]).alloc (.cells #[.slice none 0 0, .slice none 0 0] 30)
  have k1 := Blk.new (w.alloc (.cells #[.slice A1 n1 c1, .slice (some ⟨gq, off, none⟩) n2 c2] 30)) 30 #[.slice none 0 0, .slice none 0 0]
  rw [show (w.alloc (.cells #[.slice A1 n1 c1, .slice (some ⟨gq, off, none⟩) n2 c2] 30)).heap.size = w.heap.size + 1 by simp] at k1
  have hQ0 : 0 < n2 := by rw [e2]; exact hQ
  have hn2 : n2 ≤ 100000 := by rw [e2]; exact hQ9
  have hn1 : n1 ≤ 100000 := by rw [e1]; exact hP9
  have hc2' : n2 ≤ c2 := by rw [e2]; exact hc2
  have hrs := Lib.hid (rootM_spec hQ)
  have K := Lib.hid ((Keeps.one k0).snoc k1)
  have hB := Lib.hid hBW
  replace e1 := Lib.hid e1
  replace e2 := Lib.hid e2
  clear h1 h2 hI0 hcell hc2 hBW k0 k1 hP9 hQ9
  go_enter Tryz.func23, Tryz.ntmps23
  go_upto_block 0 with fail
  go_cut [3, 4, 5] from 7 to 43 (fun pv _ _ wx => pv = .int .i64 ((rootM Q : Nat) : Int) ∧ Keeps wx [(w.heap.size, #[.slice A1 n1 c1, .slice (some ⟨gq, off, none⟩) n2 c2]), (w.heap.size + 1, #[.slice none 0 0, .slice none 0 0])] ∧ Below w.heap.size w wx)
  case first =>
    go_wp2_with fail
    go_loopw [3, 4, 5] (fun pv _ _ wr => ∃ p : Nat, pv = .int .i64 (p : Int) ∧ 1 ≤ p ∧ p ≤ n2 ∧ rootM Q = rootF Q (n2 - p) p ∧ Keeps wr [(w.heap.size, #[.slice A1 n1 c1, .slice (some ⟨gq, off, none⟩) n2 c2]), (w.heap.size + 1, #[.slice none 0 0, .slice none 0 0])] ∧ Below w.heap.size w wr) (fun pv _ _ _ => n2 - (intOf pv).toNat)
    case atStart => exact ⟨1, rfl, Nat.le_refl _, hQ0, by rw [e2.out]; rfl, K.out, hB.out⟩
    case round =>
      clear K hB
      obtain ⟨p, rfl, hp1, hp2, hroot, K, hB⟩ := hrel
      replace hroot := Lib.hid hroot
      replace K := Lib.hid K
      replace hB := Lib.hid hB
      have a1 : wr.cell? ⟨w.heap.size, 1, none⟩ = some (.slice (some ⟨gq, off, none⟩) n2 c2) := (K.out.at_ 0 rfl).cell 1
      by_cases hlo : p < n2
      · have hloI : (p : Int) < (n2 : Int) := by omega
        have hp0 : ¬ (p : Int) = 0 := by omega
        have hpN : ¬ p = 0 := by omega
        obtain ⟨jm, hjm⟩ : ∃ j, j = n2 % p := ⟨_, rfl⟩
        have hjI : (n2 : Int).tmod (p : Int) = (jm : Int) := by rw [hjm]; exact tmod_nat _ _
        obtain ⟨sb, hsb⟩ : ∃ b, b = decide (jm = 0) := ⟨_, rfl⟩
        have hjd : ((jm : Int) == 0) = sb := by
          rw [hsb]
          by_cases h : jm = 0
          · rw [decide_eq_true h, beq_iff_eq]; omega
          · rw [decide_eq_false h, beq_eq_false_iff_ne]; omega
        have hs0 : Hid (sb = perI Q p 0) := Lib.hid (by rw [perI_zero, hsb, hjm, e2.out])
        replace hjm := Lib.hid hjm
        replace hsb := Lib.hid hsb
        go_wp2_with fail
        go_loopw [4, 5] (fun sv iv wq => ∃ (i nd : Nat) (sb : Bool), iv = .int .i64 (i : Int) ∧ i ≤ n2 ∧ sv = .bool sb ∧ sb = perI Q p i ∧ wq = wr.drewN nd) (fun _ iv _ => n2 - (intOf iv).toNat)
        case atStart => exact ⟨0, 0, sb, rfl, Nat.zero_le _, by first | rfl | rw [hjd], hs0.out, rfl⟩
        case round =>
          clear hjd hjI hs0 hjm hsb
          obtain ⟨i, nd, sb2, rfl, hi, rfl, hsb2, rfl⟩ := hrel
          have hBq := Lib.hid (below_drewN hB.out nd)
          by_cases hgo : i < n2 ∧ sb2 = true
          · obtain ⟨hi2, rfl⟩ := hgo
            have hi2I : (i : Int) < (n2 : Int) := by omega
            obtain ⟨j, hj⟩ : ∃ j, j = i % p := ⟨_, rfl⟩
            have hjp : j < p := by rw [hj]; exact Nat.mod_lt _ (by omega)
            have hji : (i : Int).tmod (p : Int) = (j : Int) := by rw [hj]; exact tmod_nat _ _
            have hjn : (j : Int) < (n2 : Int) := by omega
            obtain ⟨x, hx⟩ : ∃ x, Q[i]? = some x := ⟨_, List.getElem?_eq_getElem (by rw [← e2.out]; exact hi2)⟩
            obtain ⟨y, hy⟩ : ∃ y, Q[j]? = some y := ⟨_, List.getElem?_eq_getElem (by rw [← e2.out]; omega)⟩
            have cx : wr.cell? ⟨gq, off + i, none⟩ = some (.int .u8 (x : Int)) := hcq.out _ hB.out i x hx
            have cy : wr.cell? ⟨gq, off + j, none⟩ = some (.int .u8 (y : Int)) := hcq.out _ hB.out j y hy
            obtain ⟨bb, hbb⟩ : ∃ b, b = decide (x = y) := ⟨_, rfl⟩
            have hxy : ((x : Int) == (y : Int)) = bb := by
              rw [hbb]
              by_cases h : x = y
              · rw [decide_eq_true h, beq_iff_eq]; omega
              · rw [decide_eq_false h, beq_eq_false_iff_ne]; omega
            have hnx : Hid (bb = perI Q p (i + 1)) := Lib.hid (by
              rw [perI_step hsb2.symm, hbb, List.getD_eq_getElem?_getD, List.getD_eq_getElem?_getD, hx, ← hj, hy]
              rfl)
            replace hx := Lib.hid hx
            replace hy := Lib.hid hy
            replace hj := Lib.hid hj
            replace hbb := Lib.hid hbb
            replace hsb2 := Lib.hid hsb2
            go_wp2_with fail
            go_quiet (fail)
            go_wp2_with fail
            go_roundw
            case rel => exact ⟨i + 1, nd + nq, bb, by go_num, by omega, by first | rfl | rw [hxy], hnx.out, by first | rfl | rw [World.drewN_drewN]⟩
            case measure => simp [intOf]; omega
          · have hKq := fun nd => (show Keeps (wr.drewN nd) _ from fun i x hx => Blk.drewN (K.out i x hx) nd)
            cases sb2
            · have hno : per Q p = false := perI_no (by rw [← e2.out]; exact hi) hsb2.symm
              have hr2 : Hid (rootM Q = rootF Q (n2 - (p + 1)) (p + 1)) := Lib.hid (by
                rw [hroot.out, show n2 - p = (n2 - (p + 1)) + 1 by omega, rootF, hno]
                rfl)
              have hKd := Lib.hid (hKq nd)
              clear hKq hno hsb2 hgo
              by_cases hi2 : i < n2
              · have hi2I : (i : Int) < (n2 : Int) := by omega
                go_wp2_with fail
                go_roundw
                case rel => exact ⟨p + 1, by go_num, by omega, by omega, hr2.out, hKd.out, hBq.out⟩
                case measure => simp [intOf]; omega
              · have hi2I : ¬ (i : Int) < (n2 : Int) := by omega
                go_wp2_with fail
                go_roundw
                case rel => exact ⟨p + 1, by go_num, by omega, by omega, hr2.out, hKd.out, hBq.out⟩
                case measure => simp [intOf]; omega
            · obtain rfl : i = n2 := by
                have : ¬ i < n2 := fun h => hgo ⟨h, rfl⟩
                omega
              have hi2I : ¬ (i : Int) < (i : Int) := by omega
              have hyes : per Q p = true := by rw [← perI_all, ← e2.out]; exact hsb2.symm
              have hr2 : Hid (rootM Q = p) := Lib.hid (by rw [hroot.out, show i - p = (i - (p + 1)) + 1 by omega, rootF, hyes]; rfl)
              have hKd := Lib.hid (hKq nd)
              clear hKq hyes hsb2 hgo
              go_wp2_with fail
              go_meet
              case rel => exact ⟨by rw [hr2.out], hKd.out, hBq.out⟩
      · obtain rfl : p = n2 := by omega
        have hloI : ¬ (p : Int) < (p : Int) := by omega
        have hr2 : Hid (rootM Q = p) := Lib.hid (by rw [hroot.out, Nat.sub_self]; rfl)
        go_wp2_with fail
        go_meet
        case rel => exact ⟨by rw [hr2.out], K.out, hB.out⟩
  case rest =>
    clear K hB
    obtain ⟨rfl, K, hB⟩ := hcut
    obtain ⟨m, hm⟩ : ∃ m, m = rootM Q := ⟨_, rfl⟩
    have hm1 : 1 ≤ m := by rw [hm]; exact hrs.out.1
    have hmn : m ≤ n2 := by rw [hm, e2.out]; exact hrs.out.2.1
    rw [← hm]
    replace hm := Lib.hid hm
    obtain ⟨w1, rfl⟩ : ∃ w1 : World, w1 = wc := ⟨_, rfl⟩
    have a0 : w1.cell? ⟨w.heap.size, 0, none⟩ = some (.slice A1 n1 c1) := (K.at_ 0 rfl).cell 0
    clear hcq
    go_upto_block 4 with fail
    go_cut [6] from 47 to 63 (fun nv wx => nv = .int .i64 ((lowN P Q m n1 : Nat) : Int) ∧ Keeps wx [(w.heap.size, #[.slice A1 n1 c1, .slice (some ⟨gq, off, none⟩) n2 c2]), (w.heap.size + 1, #[.slice none 0 0, .slice none 0 0])] ∧ Below w.heap.size w wx)
    case first =>
      go_wp2_with fail
      go_loopw [6] (fun nv wr => ∃ n : Nat, nv = .int .i64 (n : Int) ∧ n ≤ n1 ∧ lowN P Q m n1 = lowN P Q m n ∧ Keeps wr [(w.heap.size, #[.slice A1 n1 c1, .slice (some ⟨gq, off, none⟩) n2 c2]), (w.heap.size + 1, #[.slice none 0 0, .slice none 0 0])] ∧ Below w.heap.size w wr) (fun nv _ => (intOf nv).toNat)
      case atStart => exact ⟨n1, rfl, Nat.le_refl _, rfl, K, hB⟩
      case round =>
        clear K hB a0
        obtain ⟨n, rfl, hn, hlow, K, hB⟩ := hrel
        replace hlow := Lib.hid hlow
        replace K := Lib.hid K
        replace hB := Lib.hid hB
        by_cases h0 : 0 < n
        · obtain ⟨n', hn'⟩ : ∃ k, n = k + 1 := ⟨n - 1, by omega⟩
          have h0I : (0 : Int) < (n : Int) := by omega
          obtain ⟨k2, hk2⟩ : ∃ k, k = n' + m := ⟨_, rfl⟩
          have hw1 : IntKind.i64.wrap ((n : Int) - 1) = (n' : Int) := by rw [IntKind.wrap_i64]; omega
          have hw2 : IntKind.i64.wrap ((n' : Int) + (m : Int)) = (k2 : Int) := by rw [IntKind.wrap_i64]; omega
          obtain ⟨x, hx⟩ : ∃ x, x = rowAt P Q n' := ⟨_, rfl⟩
          obtain ⟨y, hy⟩ : ∃ y, y = rowAt P Q k2 := ⟨_, rfl⟩
          have m0 : ∀ d os, (grow (redrawn wr d) os).cell? ⟨w.heap.size, 0, none⟩ = some (.slice A1 n1 c1) := cell_regrown ((K.out.at_ 0 rfl).cell 0)
          have m1 : ∀ d os, (grow (redrawn wr d) os).cell? ⟨w.heap.size, 1, none⟩ = some (.slice (some ⟨gq, off, none⟩) n2 c2) := cell_regrown ((K.out.at_ 0 rfl).cell 1)
          have cx : ∀ d os, Calls Tryz.prog 25 #[.agg #[.slice A1 n1 c1, .slice (some ⟨gq, off, none⟩) n2 c2], .int .i64 (n' : Int)] (grow (redrawn wr d) os) fun e w'' => e = .returned (.int .u8 (x : Int)) ∧ ∃ p : Regrown, w'' = grow (redrawn wr p.d) p.os :=
            fun d os => Calls.regrown_of (by
              rw [hx]
              exact hat.out n' (by omega) _ (hB.out.trans ((below_regrown wr d os).mono hB.out.size)))
          have cy : ∀ d os, Calls Tryz.prog 25 #[.agg #[.slice A1 n1 c1, .slice (some ⟨gq, off, none⟩) n2 c2], .int .i64 (k2 : Int)] (grow (redrawn wr d) os) fun e w'' => e = .returned (.int .u8 (y : Int)) ∧ ∃ p : Regrown, w'' = grow (redrawn wr p.d) p.os :=
            fun d os => Calls.regrown_of (by
              rw [hy]
              exact hat.out k2 (by omega) _ (hB.out.trans ((below_regrown wr d os).mono hB.out.size)))
          replace hx := Lib.hid hx
          replace hy := Lib.hid hy
          replace hn' := Lib.hid hn'
          replace hk2 := Lib.hid hk2
          go_upto_region 11 with fail
          refine wp_region_quiet_below (by kernel_rfl) (by kernel_rfl) ?_
          iterate 6 (quiet_step (fail))
          quiet_step (exact cx _ _)
          iterate 5 (quiet_step (fail))
          quiet_step (exact cy _ _)
          iterate 2 (quiet_step (fail))
          refine wpQuiet_nil ?_
          intro q5 hw'
          have hb : Below wr.heap.size wr q5 := by
            obtain ⟨p, rfl⟩ := hw'
            exact below_regrown wr p.d p.os
          replace K := Lib.hid (K.out.below hb)
          replace hB := Lib.hid (hB.out.trans (hb.mono hB.out.size))
          clear hw' cx cy m0 m1 hb hw2
          by_cases hxy : x = y
          · have hl2 : Hid (lowN P Q m n1 = lowN P Q m n') := Lib.hid (by rw [hlow.out, hn'.out, lowN_step (by rw [← hx.out, ← hk2.out, ← hy.out]; exact hxy)])
            have hxyI : ((x : Int) == (y : Int)) = true := by rw [beq_iff_eq]; omega
            have hnn : (n : Int) - 1 = (n' : Int) := by have := hn'.out; omega
            clear hxy hlow
            go_wp2_with fail
            go_roundw
            case rel => exact ⟨n', by first | rfl | (congr 1), by have := hn'.out; omega, hl2.out, K.out, hB.out⟩
            case measure => have := hn'.out; simp [intOf]; omega
          · have hl2 : Hid (lowN P Q m n1 = n) := Lib.hid (by rw [hlow.out, hn'.out, lowN_stop (by rw [← hx.out, ← hk2.out, ← hy.out]; exact hxy)])
            have hxyI : ((x : Int) == (y : Int)) = false := by rw [beq_eq_false_iff_ne]; omega
            clear hxy hlow hw1
            go_wp2_with fail
            go_meet
            case rel => exact ⟨by rw [hl2.out], K.out, hB.out⟩
        · obtain rfl : n = 0 := by omega
          have hl2 : Hid (lowN P Q m n1 = 0) := Lib.hid (by rw [hlow.out]; rfl)
          clear hlow
          go_upto_region 11 with fail
          go_quiet (fail)
          go_wp2_with fail
          go_meet
          case rel => exact ⟨by rw [hl2.out], fun i x hx => Blk.drewN (K.out i x hx) _, below_drewN hB.out _⟩
    case rest =>
      clear K hB a0
      obtain ⟨rfl, K, hB⟩ := hcut
      obtain ⟨ln, hln⟩ : ∃ k, k = lowN P Q m n1 := ⟨_, rfl⟩
      have hl9 : ln ≤ n1 := by rw [hln]; exact lowN_le _ _ _ _
      rw [← hln]
      replace hln := Lib.hid hln
      obtain ⟨w2, rfl⟩ : ∃ w2 : World, w2 = wc := ⟨_, rfl⟩
      have a0 : w2.cell? ⟨w.heap.size, 0, none⟩ = some (.slice A1 n1 c1) := (K.at_ 0 rfl).cell 0
      have a1 : w2.cell? ⟨w.heap.size, 1, none⟩ = some (.slice (some ⟨gq, off, none⟩) n2 c2) := (K.at_ 0 rfl).cell 1
      have hres : Hid (lowP P Q = rowL P Q 0 ln ∧ lowQ P Q = rowL P Q ln m) := Lib.hid (by
        unfold lowP lowQ
        rw [← hm.out, ← e1.out, ← hln.out]
        exact ⟨take_rowL (by rw [← e1.out]; exact hl9), rfl⟩)
      have hS : Hid (∀ W, Below w2.heap.size w2 W → W.cell? ⟨w.heap.size, 0, none⟩ = some (.slice A1 n1 c1) ∧ W.cell? ⟨w.heap.size, 1, none⟩ = some (.slice (some ⟨gq, off, none⟩) n2 c2)) := Lib.hid (fun W hb => ⟨(Blk.below (K.at_ 0 rfl) hb).cell 0, (Blk.below (K.at_ 0 rfl) hb).cell 1⟩)
      have hR1 : Hid (Calls Tryz.prog 47 #[.agg #[.slice A1 n1 c1, .slice (some ⟨gq, off, none⟩) n2 c2], .int .i64 0, .int .i64 (ln : Int)] w2.drew (RetOwn (rowL P Q 0 ln) w2.drew)) := Lib.hid (hrow.out 0 ln (by omega) (by omega) _ hB.drew)
      have hR2 : Hid (∀ W, Below w2.heap.size w2 W → Calls Tryz.prog 47 #[.agg #[.slice A1 n1 c1, .slice (some ⟨gq, off, none⟩) n2 c2], .int .i64 (ln : Int), .int .i64 (m : Int)] W (RetOwn (rowL P Q ln m) W)) := Lib.hid (fun W hb => hrow.out ln m (by omega) (by omega) _ (hB.trans (hb.mono hB.size)))
      have hz2 : Hid (w.heap.size + 1 < w2.heap.size) := Lib.hid (K.at_ 1 rfl).lt
      replace K := Lib.hid K
      replace hB := Lib.hid hB
      clear hrow hat hI
      go_upto_region 13 with fail
      go_region_held3 (fun w' => w'.cell? ⟨w.heap.size, 0, none⟩ = some (.slice A1 n1 c1) ∧ w'.cell? ⟨w.heap.size, 1, none⟩ = some (.slice (some ⟨gq, off, none⟩) n2 c2)) (go_keep)
        (first
          | (go_at_call 47; (with_reducible refine hR1.out.mono ?_); rintro en w3 ⟨v3, rfl, o3, hb3⟩; have hb3' := below_after (Nat.le_refl _) hb3; obtain ⟨s3, t3⟩ := hS.out _ hb3'; obtain ⟨V3, C3, rfl⟩ := own_forms3 o3; replace o3 := Lib.hid o3; replace hb3' := Lib.hid hb3'; clear hb3)
          | (go_at_call 47; (with_reducible refine (hR2.out _ hb3'.out).mono ?_); rintro en w4 ⟨v4, rfl, o4, hb4⟩; have hb4' := hb3'.out.trans (hb4.mono hb3'.out.size); obtain ⟨s4, t4⟩ := hS.out _ hb4'; obtain ⟨V4, C4, rfl⟩ := own_forms3 o4; have o34 := Lib.hid (own_below o3.out hb4); have j1 := Blk.below (K.out.at_ 1 rfl) hb4'; have b0 : w4.cell? ⟨w.heap.size + 1, 0, none⟩ = some (.slice none 0 0) := j1.cell 0; have b1 : w4.cell? ⟨w.heap.size + 1, 1, none⟩ = some (.slice none 0 0) := j1.cell 1; have f0 := j1.frozen 0; have f1 := j1.frozen 1; have hz3 := Lib.hid hb3'.out.size; replace o4 := Lib.hid o4; replace j1 := Lib.hid j1; replace hb4' := Lib.hid hb4'; clear hb4))
      all_goals go_wp2_with fail
      have hB6 := hB.out.trans (hb4'.out.mono hB.out.size)
      have KZ := Lib.hid (Blk.set_ (Blk.set_ j1.out 0 (.slice V3 (rowL P Q 0 ln).length C3)) 1 (.slice V4 (rowL P Q ln m).length C4))
      have hBZ := Lib.hid ((hB6.setCell (p := ⟨w.heap.size + 1, 0, none⟩) (by simp) (.slice V3 (rowL P Q 0 ln).length C3)).setCell (p := ⟨w.heap.size + 1, 1, none⟩) (by simp) (.slice V4 (rowL P Q ln m).length C4))
      have q0 := KZ.out.cell 0
      have q1 := KZ.out.cell 1
      refine bodyPost_ret (v := .agg #[.slice V3 (rowL P Q 0 ln).length C3, .slice V4 (rowL P Q ln m).length C4]) (by simp [results, Tryz.results23, go_sem, q0, q1]) rfl ?_
      rw [hres.out.1, hres.out.2]
      have hq := hz2.out
      have hq3 := hz3.out
      have hw2 : w.heap.size ≤ w2.heap.size := by omega
      exact ⟨_, _, rfl, Pf.of_own (n := (rowL P Q 0 ln).length) (ownsRow_setCell_below (ownsRow_setCell_below (own_le o34.out (show w.heap.size + 2 ≤ _ by show _ ≤ w2.heap.size; omega)) (by simp) _) (by simp) _) |>.le (by omega), Pf.of_own (n := (rowL P Q ln m).length) (ownsRow_setCell_below (ownsRow_setCell_below (own_le o4.out (show w.heap.size + 2 ≤ _ by omega)) (by simp) _) (by simp) _) |>.le (by omega), hBZ.out⟩
end Go.Proofs.YtbddlbhanpjdnaaGreatDoor
