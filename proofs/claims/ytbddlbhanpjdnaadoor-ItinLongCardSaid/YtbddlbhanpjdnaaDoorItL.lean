/- filigreelaw22.ItinLong: the walk. -/
import Derived.Test.YtbddlbhanpjdnaaDoorItBk
import Derived.Test.YtbddlbhanpjdnaaDoorItS
namespace Go.Proofs.YtbddlbhanpjdnaaDoor
open Go.RowKit Go.Sort

theorem make_long (n : Nat) (hn : n ≤ 4096) (w : World) :
    (Instr.makeSlice 26 (.int .i64 ((n : Int) + 1)) (.int .i64 ((n : Int) + 1))).run Tryd.prog w = .ok (.slice (some ⟨w.heap.size, 0, none⟩) (n + 1) (n + 1)) (w.alloc (.cells (ivs .u8 (List.replicate (n + 1) 0)).toArray 5)) := by
  have := make_u8 (n + 1) (by omega) w
  rw [show ((n + 1 : Nat) : Int) = (n : Int) + 1 by push_cast; rfl] at this
  exact this

theorem make_many (Z : List Nat) (hZ : Z = List.replicate 16385 0) (w : World) :
    (Instr.makeSlice 26 (.int .i64 16385) (.int .i64 16385)).run Tryd.prog w = .ok (.slice (some ⟨w.heap.size, 0, none⟩) 16385 16385) (w.alloc (.cells (ivs .u8 Z).toArray 5)) := by
  rw [hZ]
  exact make_u8 16385 (by omega) w
theorem al0 (w : World) (a b c : Obj) : (((w.alloc a).alloc b).alloc c).heap[w.heap.size]? = some a := by
  rw [Below.heap_alloc _ _ _ (by simp; omega), Below.heap_alloc _ _ _ (by simp)]
  exact heap_alloc_new w a
theorem al1 (w : World) (a b c : Obj) : (((w.alloc a).alloc b).alloc c).heap[w.heap.size + 1]? = some b := by
  rw [Below.heap_alloc _ _ _ (by simp)]
  have := heap_alloc_new (w.alloc a) b
  rwa [World.size_alloc] at this
theorem al2 (w : World) (a b c : Obj) : (((w.alloc a).alloc b).alloc c).heap[w.heap.size + 1 + 1]? = some c := by
  have := heap_alloc_new ((w.alloc a).alloc b) c
  rwa [World.size_alloc, World.size_alloc] at this
theorem am0 (w : World) (a b : Obj) : ((w.alloc a).alloc b).heap[w.heap.size]? = some a := by
  rw [Below.heap_alloc _ _ _ (by simp)]
  exact heap_alloc_new w a
theorem am1 (w : World) (a b : Obj) : ((w.alloc a).alloc b).heap[w.heap.size + 1]? = some b := by
  have := heap_alloc_new (w.alloc a) b
  rwa [World.size_alloc] at this
theorem zeros_at (n q i : Nat) : rowAt (List.replicate n 0) (List.replicate q 0) i = 0 := by
  have h : ∀ (m j : Nat), (List.replicate m (0 : Nat)).getD j 0 = 0 := fun m j => by
    rw [List.getD_eq_getElem?_getD, List.getElem?_replicate]
    split <;> rfl
  unfold rowAt
  split
  · exact h _ _
  · exact h _ _
theorem zeros_low {n q : Nat} (hq : 0 < q) : (lowP (List.replicate n 0) (List.replicate q 0)).length = 0 ∧ (lowQ (List.replicate n 0) (List.replicate q 0)).length = 1 := by
  have hq' : 0 < (List.replicate q (0 : Nat)).length := by rw [List.length_replicate]; exact hq
  have hp : Per (rowAt (List.replicate n 0) (List.replicate q 0)) 0 1 := fun j _ => by rw [zeros_at, zeros_at]
  have h1 := rootM_le hq' (Nat.le_refl 1) hp
  have h2 := (rootM_spec hq').1
  have e : rootM (List.replicate q 0) = 1 := by omega
  rw [lowP_len, lowQ_len, e]
  exact ⟨Nat.le_zero.1 (lowN_least hp _), rfl⟩
theorem zeros_may {n q : Nat} (hq : 0 < q) (h : n + q ≤ 4096) : mayI (List.replicate n 0) (List.replicate q 0) = true := by
  have hn : List.replicate q (0 : Nat) ≠ [] := fun e => by have := congrArg List.length e; simp at this; omega
  simp only [mayI, Bool.and_eq_true, List.all_eq_true, decide_eq_true_eq]
  refine ⟨⟨⟨hn, by simp; exact h⟩, fun x hx => ?_⟩, fun x hx => ?_⟩
  · rw [List.eq_of_mem_replicate hx]; rfl
  · rw [List.eq_of_mem_replicate hx]; rfl
theorem zeros_not {n q : Nat} (h : 4096 < n + q) : mayI (List.replicate n 0) (List.replicate q 0) = false := by
  cases hm : mayI (List.replicate n 0) (List.replicate q 0)
  · rfl
  · have := (mayI_spec hm).2.1; simp at this; omega
theorem zeros_lt {n : Nat} : ∀ x, x ∈ List.replicate n (0 : Nat) → x < 256 := fun x hx => by rw [List.eq_of_mem_replicate hx]; omega
/-- What ones say. -/
theorem ones_out {s P Q : List Nat} {E : Int} (h : RdOut s P Q E) (h1 : ∀ x, x ∈ s → x = 49) : E = if 16384 < s.length then 4 else 220 := by
  rcases h with ⟨a, -, -, e⟩ | ⟨a, ⟨-, e, -⟩ | ⟨-, -, e, -⟩⟩
  · rw [if_pos a, e]
  · have : 41 ∈ textL P Q := by simp [textL]
    rw [e] at this
    have := h1 41 this
    omega
  · rw [if_neg (by omega), e]

set_option maxRecDepth 100000 in
set_option maxHeartbeats 1000000 in
/-- filigreeref22.Same -/
theorem rsame_any (a b c d : Value) (P Q P' Q' : List Nat) (w : World) (h : Itn w a b P Q) (k : Itn w c d P' Q') :
    Calls Tryd.prog 32 #[.agg #[a, b], .agg #[c, d]] w (RetVal (.bool (decide (P = P') && decide (Q = Q'))) w) := by
  obtain ⟨⟨A1, n1, c1, T1, rfl, h1⟩, ⟨A2, n2, c2, T2, rfl, h2⟩, s1, s2, -, -⟩ := h
  obtain ⟨⟨A3, n3, c3, T3, rfl, h3⟩, ⟨A4, n4, c4, T4, rfl, h4⟩, s3, s4, -, -⟩ := k
  obtain ⟨W, hW⟩ : ∃ W, W = (w.alloc (.cells #[.slice A1 n1 c1, .slice A2 n2 c2] 28)).alloc (.cells #[.slice A3 n3 c3, .slice A4 n4 c4] 28) := ⟨_, rfl⟩
  have hBW : Below w.heap.size w W := by rw [hW]; exact ((Below.refl _ w).alloc (Nat.le_refl _) _).alloc (by simp) _
  have q1 := conv_rd W A1 n1 c1 P (h1.below hBW) s1 9 Tryd.underlying9
  have q2 := conv_rd W A2 n2 c2 Q (h2.below hBW) s2 9 Tryd.underlying9
  have q3 := conv_rd W A3 n3 c3 P' (h3.below hBW) s3 9 Tryd.underlying9
  have q4 := conv_rd W A4 n4 c4 Q' (h4.below hBW) s4 9 Tryd.underlying9
  have e1 := mkS_beq s1 s3
  have e2 := mkS_beq s2 s4
  obtain ⟨x, hx⟩ : ∃ x, x = decide (P = P') := ⟨_, rfl⟩
  obtain ⟨y, hy⟩ : ∃ y, y = decide (Q = Q') := ⟨_, rfl⟩
  rw [← hx] at e1 ⊢
  rw [← hy] at e2 ⊢
  obtain ⟨m1, hm1⟩ : ∃ m, m = mkS P := ⟨_, rfl⟩
  obtain ⟨m2, hm2⟩ : ∃ m, m = mkS Q := ⟨_, rfl⟩
  obtain ⟨m3, hm3⟩ : ∃ m, m = mkS P' := ⟨_, rfl⟩
  obtain ⟨m4, hm4⟩ : ∃ m, m = mkS Q' := ⟨_, rfl⟩
  rw [← hm1] at q1 e1
  rw [← hm2] at q2 e2
  rw [← hm3] at q3 e1
  rw [← hm4] at q4 e2
  rw [hW] at q1 q2 q3 q4 hBW
  replace hBW := Lib.hid hBW
  clear hW h1 h2 h3 h4 s1 s2 s3 s4 hx hy hm1 hm2 hm3 hm4
  cases x <;> cases y
  all_goals
    go_enter Tryd.func32, Tryd.ntmps32
    go_wp2_with fail
    go_ret
    exact ⟨rfl, hBW.out⟩

theorem iCheckI_any (a b : Value) (P Q : List Nat) (w : World) (h : Itn w a b P Q) : Calls Tryd.prog 23 #[.agg #[a, b]] w (RetVal (.int .i64 (chkE P Q)) w) := by
  obtain ⟨⟨A1, n1, c1, T1, rfl, h1⟩, ⟨A2, n2, c2, T2, rfl, h2⟩, s1, s2, l1, l2⟩ := h
  exact iCheck_any A1 A2 n1 c1 n2 c2 P Q w h1 h2 s1 s2 l1 l2

set_option maxRecDepth 100000 in
set_option maxHeartbeats 4000000 in
/-- filigreelaw22.ItinLong -/
theorem itinLong_any (ahead : Int) (w : World) (_ : (Lit.int .i64 ahead).wf = true) :
    Calls Tryd.prog 10 #[.int .i64 ahead] w (RetVal (.bool true) w) := by
  obtain ⟨xr, hR⟩ : ∃ x, ahead.tmod 4096 = x := ⟨_, rfl⟩
  have hR9 : -4096 < xr ∧ xr < 4096 := by
    rw [← hR]
    have := Int.tmod_lt_of_pos ahead (b := 4096) (by omega)
    have := Int.lt_tmod_of_pos ahead (b := 4096) (by omega)
    omega
  obtain ⟨n, hn⟩ : ∃ n : Nat, (n : Int) = if xr < 0 then xr + 4096 else xr := by
    by_cases h : xr < 0
    · exact ⟨(xr + 4096).toNat, by rw [if_pos h]; omega⟩
    · exact ⟨xr.toNat, by rw [if_neg h]; omega⟩
  have hn9 : n < 4096 := by split at hn <;> omega
  replace hn := Lib.hid hn
  go_enter Tryd.func10, Tryd.ntmps10
  go_upto_if 21 with fail
  go_cut [3] from 21 to 23 (fun v wx => v = .int .i64 (n : Int) ∧ w = wx)
  case first =>
    by_cases hx : xr < 0
    · have hn2 : Hid (xr + 4096 = (n : Int)) := Lib.hid (by have := hn.out; rw [if_pos hx] at this; exact this.symm)
      go_wp2_with fail
      go_meet
      case rel => exact ⟨by rw [hn2.out], by first | rfl | trivial⟩
    · have hn2 : Hid (xr = (n : Int)) := Lib.hid (by have := hn.out; rw [if_neg hx] at this; exact this.symm)
      go_wp2_with fail
      go_meet
      case rel => exact ⟨by rw [hn2.out], by first | rfl | trivial⟩
  case rest =>
    obtain ⟨rfl, rfl⟩ := hcut
    clear hR hR9 hn
    obtain ⟨q, hq⟩ : ∃ q, q = 4096 - n := ⟨_, rfl⟩
    have hqI : 4096 - (n : Int) = (q : Int) := by omega
    have hq1 : 1 ≤ q := by omega
    have hq9 : q ≤ 4096 := by omega
    replace hq := Lib.hid hq
    obtain ⟨ZP, hZP⟩ : ∃ l, l = List.replicate n 0 := ⟨_, rfl⟩
    obtain ⟨ZQ, hZQ⟩ : ∃ l, l = List.replicate q 0 := ⟨_, rfl⟩
    obtain ⟨ZM, hZM⟩ : ∃ l, l = List.replicate (n + 1) 0 := ⟨_, rfl⟩
    have hm1 := fun w => make_u8 n (by omega) w
    have hm2 := fun w => make_u8 q (by omega) w
    have hm3 := fun w => make_long n (by omega) w
    rw [← hZP] at hm1
    rw [← hZQ] at hm2
    rw [← hZM] at hm3
    have hmay : Hid (mayI ZP ZQ = true) := Lib.hid (by have := hq.out; rw [hZP, hZQ]; exact zeros_may (by omega) (by omega))
    have hnot : Hid (mayI ZM ZQ = false) := Lib.hid (by have := hq.out; rw [hZM, hZQ]; exact zeros_not (by omega))
    have hlow : Hid ((lowP ZP ZQ).length = 0 ∧ (lowQ ZP ZQ).length = 1) := Lib.hid (by rw [hZP, hZQ]; exact zeros_low (by omega))
    have hzlt : Hid ((∀ x, x ∈ ZP → x < 256) ∧ (∀ x, x ∈ ZQ → x < 256) ∧ (∀ x, x ∈ ZM → x < 256)) := Lib.hid (by rw [hZP, hZQ, hZM]; exact ⟨zeros_lt, zeros_lt, zeros_lt⟩)
    have hlen : Hid (ZP.length = n ∧ ZQ.length = q ∧ ZM.length = n + 1) := Lib.hid (by rw [hZP, hZQ, hZM]; simp)
    replace hZP := Lib.hid hZP
    replace hZQ := Lib.hid hZQ
    replace hZM := Lib.hid hZM
    go_upto_region 4 with fail
    go_cut [4] from 24 to 29 (fun v wx => ∃ g p r, v = .pointer (some ⟨g, 0, none⟩) ∧ Blk wx g 28 #[.slice (some ⟨p, 0, none⟩) n n, .slice (some ⟨r, 0, none⟩) q q] ∧ Arr wx p .u8 5 ZP ∧ Arr wx r .u8 5 ZQ ∧ w.heap.size ≤ g ∧ Below w.heap.size w wx)
    case first =>
      go_region
      all_goals go_wp2_with fail
      all_goals go_meet
      all_goals have hBB : ∀ a b c, Below w.heap.size w (((w.alloc a).alloc b).alloc c).drew := fun a b c => ((((Below.refl _ w).alloc (Nat.le_refl _) _).alloc (by simp) _).alloc (by simp; omega) _).drew
      all_goals first | exact ⟨_, _, _, rfl, al2 _ _ _ _, al0 _ _ _ _, al1 _ _ _ _, by omega, hBB _ _ _⟩ | exact ⟨_, _, _, rfl, al2 _ _ _ _, al1 _ _ _ _, al0 _ _ _ _, by omega, hBB _ _ _⟩ | exact ⟨_, _, _, rfl, al0 _ _ _ _, al2 _ _ _ _, al1 _ _ _ _, by omega, hBB _ _ _⟩ | exact ⟨_, _, _, rfl, al0 _ _ _ _, al1 _ _ _ _, al2 _ _ _ _, by omega, hBB _ _ _⟩ | exact ⟨_, _, _, rfl, al1 _ _ _ _, al2 _ _ _ _, al0 _ _ _ _, by omega, hBB _ _ _⟩ | exact ⟨_, _, _, rfl, al1 _ _ _ _, al0 _ _ _ _, al2 _ _ _ _, by omega, hBB _ _ _⟩
    case rest =>
      obtain ⟨g, p, r, rfl, kg, kp, kr, hgl, hB⟩ := hcut
      obtain ⟨w1, rfl⟩ : ∃ w1 : World, w1 = wc := ⟨_, rfl⟩
      have g1 : w1.cell? ⟨g, 1, none⟩ = some (.slice (some ⟨r, 0, none⟩) q q) := kg.cell 1
      have g1a : ∀ o, (w1.alloc o).cell? ⟨g, 1, none⟩ = some (.slice (some ⟨r, 0, none⟩) q q) := fun o => (kg.alloc o).cell 1
      have g1b : ∀ o o2, ((w1.alloc o).alloc o2).cell? ⟨g, 1, none⟩ = some (.slice (some ⟨r, 0, none⟩) q q) := fun o o2 => ((kg.alloc o).alloc o2).cell 1
      have hgw1 : g < w1.heap.size := kg.lt
      replace kg := Lib.hid kg
      replace kp := Lib.hid kp
      replace kr := Lib.hid kr
      replace hB := Lib.hid hB
      clear hm1 hm2
      go_upto_region 5 with fail
      go_cut [5] from 30 to 35 (fun v wx => ∃ g2 p2, v = .pointer (some ⟨g2, 0, none⟩) ∧ Blk wx g2 28 #[.slice (some ⟨p2, 0, none⟩) (n + 1) (n + 1), .slice (some ⟨r, 0, none⟩) q q] ∧ Arr wx p2 .u8 5 ZM ∧ Below w1.heap.size w1 wx)
      case first =>
        clear kg kp kr hB
        go_region
        all_goals go_wp2_with fail
        all_goals go_meet
        all_goals have hBB : ∀ a b, Below w1.heap.size w1 ((w1.alloc a).alloc b).drew := fun a b => (((Below.refl _ w1).alloc (Nat.le_refl _) _).alloc (by simp) _).drew
        all_goals first | exact ⟨_, _, rfl, am1 _ _ _, am0 _ _ _, hBB _ _⟩ | exact ⟨_, _, rfl, am0 _ _ _, am1 _ _ _, hBB _ _⟩
      case rest =>
        obtain ⟨g2, p2, rfl, kg2, kp2, hb⟩ := hcut
        obtain ⟨w2, rfl⟩ : ∃ w2 : World, w2 = wc := ⟨_, rfl⟩
        obtain ⟨Z, hZ⟩ : ∃ l, l = List.replicate 16385 0 := ⟨_, rfl⟩
        have hm4 := fun w => make_many Z hZ w
        have hZl : Hid (Z.length = 16385) := Lib.hid (by rw [hZ, List.length_replicate])
        replace hZ := Lib.hid hZ
        have K : Keeps w2 [(g, #[.slice (some ⟨p, 0, none⟩) n n, .slice (some ⟨r, 0, none⟩) q q]), (g2, #[.slice (some ⟨p2, 0, none⟩) (n + 1) (n + 1), .slice (some ⟨r, 0, none⟩) q q])] := (Keeps.one (Blk.below kg.out hb)).snoc kg2
        have kp' := Arr.below kp.out hb kp.out.lt
        have kr' := Arr.below kr.out hb kr.out.lt
        have hI : Itn w2 (.slice (some ⟨p, 0, none⟩) n n) (.slice (some ⟨r, 0, none⟩) q q) ZP ZQ := by
          refine ⟨⟨_, _, _, 5, rfl, ?_⟩, ⟨_, _, _, 5, rfl, ?_⟩, hzlt.out.1, hzlt.out.2.1, by rw [hlen.out.1]; omega, by rw [hlen.out.2.1]; omega⟩
          · have := Rd.whole kp' (by rw [hlen.out.1]; unfold maxLen; omega); rwa [hlen.out.1] at this
          · have := Rd.whole kr' (by rw [hlen.out.2.1]; unfold maxLen; omega); rwa [hlen.out.2.1] at this
        have hM : Itn w2 (.slice (some ⟨p2, 0, none⟩) (n + 1) (n + 1)) (.slice (some ⟨r, 0, none⟩) q q) ZM ZQ := by
          refine ⟨⟨_, _, _, 5, rfl, ?_⟩, ⟨_, _, _, 5, rfl, ?_⟩, hzlt.out.2.2, hzlt.out.2.1, by rw [hlen.out.2.2]; omega, by rw [hlen.out.2.1]; omega⟩
          · have := Rd.whole kp2 (by rw [hlen.out.2.2]; unfold maxLen; omega); rwa [hlen.out.2.2] at this
          · have := Rd.whole kr' (by rw [hlen.out.2.1]; unfold maxLen; omega); rwa [hlen.out.2.1] at this
        have hB2 := hB.out.trans (hb.mono hB.out.size)
        have hUp : Below w2.heap.size w2 (w2.alloc (.cells (ivs .u8 Z).toArray 5)) := (Below.refl _ w2).alloc (Nat.le_refl _) _
        have kz : Arr (w2.alloc (.cells (ivs .u8 Z).toArray 5)) w2.heap.size .u8 5 Z := heap_alloc_new w2 _
        replace K := Lib.hid K
        replace hI := Lib.hid hI
        replace hM := Lib.hid hM
        replace hB2 := Lib.hid hB2
        clear hb kg kp kr hB kg2 kp2 kp' kr' g1 g1a g1b hgw1 hm3
        go_upto_region 7 with fail
        clear hm4
        generalize hW : w2.alloc (.cells (ivs .u8 Z).toArray 5) = w3 at hUp kz ⊢
        generalize hg : w2.heap.size = gz at hUp kz ⊢
        clear hW
        replace hg := Lib.hid hg
        replace hUp := Lib.hid hUp
        go_wp2_with fail
        go_loopw [7] (fun iv wr => ∃ (i : Nat) (L : List Nat), iv = .int .i64 (i : Int) ∧ i ≤ 16385 ∧ Arr wr gz .u8 5 L ∧ L.length = 16385 ∧ (∀ j, j < i → L[j]? = some 49) ∧ w3.grownBy wr (some gz)) (fun iv _ => 16385 - (intOf iv).toNat)
        case atStart => exact ⟨0, Z, rfl, Nat.zero_le _, kz, hZl.out, fun j hj => by omega, gb_refl _ _⟩
        case round =>
          have hgw3 : gz ≤ w3.heap.size := Nat.le_of_lt kz.lt
          clear kz
          obtain ⟨i, L, rfl, hi, hA, hl, hlo, hG⟩ := hrel
          by_cases h0 : i < 16385
          · have h0I : (i : Int) < 16385 := by omega
            obtain ⟨x, hx⟩ : ∃ x, L[i]? = some x := ⟨_, List.getElem?_eq_getElem (by rw [hl]; exact h0)⟩
            have c0 : wr.cell? ⟨gz, i, none⟩ = some (.int .u8 (x : Int)) := hA.cell hx
            have f0 := hA.frozen i
            have hA2 := hA.set_ i 49
            have hG2 := gb_set hG i (.int .u8 ((49 : Nat) : Int))
            have hl2 : (L.set i 49).length = 16385 := by rw [List.length_set]; exact hl
            have hlo2 : ∀ j, j < i + 1 → (L.set i 49)[j]? = some 49 := fun j hj => by
              by_cases e : i = j
              · subst e; rw [List.getElem?_set_self (by rw [hl]; exact h0)]
              · rw [List.getElem?_set_ne e]; exact hlo j (by omega)
            replace hA2 := Lib.hid hA2
            replace hG2 := Lib.hid hG2
            replace hl2 := Lib.hid hl2
            replace hlo2 := Lib.hid hlo2
            replace hx := Lib.hid hx
            clear hA hG hl hlo
            go_wp2_with fail
            go_roundw
            case rel => exact ⟨i + 1, _, by go_num, by omega, hA2.out, hl2.out, hlo2.out, hG2.out⟩
            case measure => simp [intOf]; omega
          · obtain rfl : i = 16385 := by omega
            have h1s : Hid (∀ x, x ∈ L → x = 49) := Lib.hid (fun x hx => by
              obtain ⟨j, hj⟩ := List.mem_iff_getElem?.1 hx
              have := hlo j (by rw [← hl]; exact lt_of_getElem? hj)
              rw [this] at hj
              exact (Option.some.inj hj).symm)
            have hrd : Rd .u8 5 wr (.slice (some ⟨gz, 0, none⟩) 16385 16385) L := by
              have := Rd.whole hA (by rw [hl]; unfold maxLen; omega)
              rwa [hl] at this
            have hlt : ∀ x, x ∈ L → x < 256 := fun x hx => by rw [h1s.out x hx]; omega
            have hbU : Below w2.heap.size w2 wr := by
              rw [hg.out]
              exact hUp.out.trans (gb_below hG (Nat.le_refl _) hgw3)
            have hB := Lib.hid (hB2.out.trans (hbU.mono hB2.out.size))
            replace K := Lib.hid (K.out.below hbU)
            replace hI := Lib.hid (hI.out.below hbU)
            replace hM := Lib.hid (hM.out.below hbU)
            have hcv1 := conv_rd wr (some ⟨gz, 0, none⟩) 16385 16385 L hrd hlt 9 Tryd.underlying9
            obtain ⟨S1, hS1⟩ : ∃ s, s = mkS L := ⟨_, rfl⟩
            rw [← hS1] at hcv1
            have hs1 : Hid (sl S1 = L ∧ S1.size ≤ 140737488355328) := Lib.hid (by rw [hS1]; exact ⟨sl_mk L hlt, by rw [mkS_size, hl]; omega⟩)
            have hll := Lib.hid hl
            replace hrd := Lib.hid hrd
            replace hlt := Lib.hid hlt
            replace hS1 := Lib.hid hS1
            clear hA hl hlo hG hbU hgw3 hUp hg hB2
            go_wp2_with fail
            refine (iRead_any S1 _ hs1.out.2).mono ?_
            rintro en w4 ⟨P1, Q1, E1, ho, v1, v2, rfl, f1, f2, hb⟩
            rw [hs1.out.1] at ho
            obtain rfl : E1 = 4 := by rw [ones_out ho h1s.out, if_pos (by rw [hll.out]; omega)]
            obtain ⟨A1, c1, rfl, -⟩ := f1.form
            obtain ⟨A2, c2, rfl, -⟩ := f2.form
            have hBn := hB.out.trans (hb.mono hB.out.size)
            replace hB := Lib.hid (hBn.alloc hBn.size (.cells #[.slice A1 P1.length c1, .slice A2 Q1.length c2] 28))
            replace K := Lib.hid ((K.out.below hb).alloc (.cells #[.slice A1 P1.length c1, .slice A2 Q1.length c2] 28))
            replace hI := Lib.hid ((hI.out.below hb).alloc (.cells #[.slice A1 P1.length c1, .slice A2 Q1.length c2] 28))
            replace hM := Lib.hid ((hM.out.below hb).alloc (.cells #[.slice A1 P1.length c1, .slice A2 Q1.length c2] 28))
            replace hrd := Lib.hid ((hrd.out.below hb).alloc (.cells #[.slice A1 P1.length c1, .slice A2 Q1.length c2] 28))
            clear hb hBn
            go_upto_region 12 with fail
            generalize hW : w4.alloc (.cells #[.slice A1 P1.length c1, .slice A2 Q1.length c2] 28) = w5 at hB K hI hM hrd ⊢
            clear hW
            have hrd5 := rd_drop0 (p := 1) (m := 16384) hrd.out (by rw [hll.out]; omega) (by rw [hll.out])
            have hlt5 : ∀ x, x ∈ L.drop 1 → x < 256 := fun x hx => hlt.out x (List.mem_of_mem_drop hx)
            have hcv2 := conv_rd w5 (some ⟨gz, 1, none⟩) 16384 16384 (L.drop 1) hrd5 hlt5 9 Tryd.underlying9
            obtain ⟨S2, hS2⟩ : ∃ s, s = mkS (L.drop 1) := ⟨_, rfl⟩
            rw [← hS2] at hcv2
            have hs2 : Hid (sl S2 = L.drop 1 ∧ S2.size ≤ 140737488355328) := Lib.hid (by rw [hS2]; exact ⟨sl_mk _ hlt5, by rw [mkS_size, List.length_drop, hll.out]; omega⟩)
            replace hS2 := Lib.hid hS2
            clear hrd5 hlt5 hs1 hcv1
            go_wp2_with fail
            refine (iRead_any S2 _ hs2.out.2).mono ?_
            rintro en w4 ⟨P1, Q1, E1, ho, v1, v2, rfl, f1, f2, hb⟩
            rw [hs2.out.1] at ho
            obtain rfl : E1 = 220 := by rw [ones_out ho (fun x hx => h1s.out x (List.mem_of_mem_drop hx)), if_neg (by rw [List.length_drop, hll.out]; omega)]
            obtain ⟨A1, c1, rfl, -⟩ := f1.form
            obtain ⟨A2, c2, rfl, -⟩ := f2.form
            clear hs2 hS2 hcv2 hrd
            have hBn := hB.out.trans (hb.mono hB.out.size)
            replace hB := Lib.hid (hBn.alloc hBn.size (.cells #[.slice A1 P1.length c1, .slice A2 Q1.length c2] 28))
            replace K := Lib.hid ((K.out.below hb).alloc (.cells #[.slice A1 P1.length c1, .slice A2 Q1.length c2] 28))
            replace hI := Lib.hid ((hI.out.below hb).alloc (.cells #[.slice A1 P1.length c1, .slice A2 Q1.length c2] 28))
            replace hM := Lib.hid ((hM.out.below hb).alloc (.cells #[.slice A1 P1.length c1, .slice A2 Q1.length c2] 28))
            clear hb hBn
            go_upto_region 13 with fail
            generalize hW : w4.alloc (.cells #[.slice A1 P1.length c1, .slice A2 Q1.length c2] 28) = w7 at hB K hI hM ⊢
            clear hW
            obtain ⟨PP, hPP⟩ : ∃ l, l = lowP ZP ZQ := ⟨_, rfl⟩
            obtain ⟨QQ, hQQ⟩ : ∃ l, l = lowQ ZP ZQ := ⟨_, rfl⟩
            have hlL := hlow.out
            rw [← hPP, ← hQQ] at hlL
            replace hlL := Lib.hid hlL
            replace hPP := Lib.hid hPP
            replace hQQ := Lib.hid hQQ
            have z0 : w7.cell? ⟨g, 0, none⟩ = some (.slice (some ⟨p, 0, none⟩) n n) := (K.out.at_ 0 rfl).cell 0
            have z1 : w7.cell? ⟨g, 1, none⟩ = some (.slice (some ⟨r, 0, none⟩) q q) := (K.out.at_ 0 rfl).cell 1
            go_wp2_with fail
            refine (iLowest_any _ _ ZP ZQ _ hI.out PP QQ (by rw [hmay.out, hPP.out]; rfl) (by rw [hmay.out, hQQ.out]; rfl)).mono ?_
            rintro en w4 ⟨v1, v2, rfl, ⟨f1, B1, rfl⟩, ⟨f2, B2, rfl⟩, hb⟩
            rw [mayI_yes hmay.out, hlL.out.1, hlL.out.2]
            clear f1 f2 z0 z1
            have hBn := hB.out.trans (hb.mono hB.out.size)
            replace hB := Lib.hid (hBn.alloc hBn.size (.cells #[.slice B1 0 0, .slice B2 1 1] 28))
            replace K := Lib.hid (((K.out.below hb).alloc (.cells #[.slice B1 0 0, .slice B2 1 1] 28)).snoc (Blk.new w4 28 #[.slice B1 0 0, .slice B2 1 1]))
            replace hI := Lib.hid ((hI.out.below hb).alloc (.cells #[.slice B1 0 0, .slice B2 1 1] 28))
            replace hM := Lib.hid ((hM.out.below hb).alloc (.cells #[.slice B1 0 0, .slice B2 1 1] 28))
            clear hb hBn
            go_upto_region 14 with fail
            generalize hW : w4.alloc (.cells #[.slice B1 0 0, .slice B2 1 1] 28) = w9 at hB K hI hM ⊢
            generalize hg : w4.heap.size = gx at K ⊢
            clear hW
            have z0 : w9.cell? ⟨g, 0, none⟩ = some (.slice (some ⟨p, 0, none⟩) n n) := (K.out.at_ 0 rfl).cell 0
            have z1 : w9.cell? ⟨g, 1, none⟩ = some (.slice (some ⟨r, 0, none⟩) q q) := (K.out.at_ 0 rfl).cell 1
            obtain ⟨tx, htx⟩ : ∃ t, t = mkS (textL ZP ZQ) := ⟨_, rfl⟩
            have htx2 : Hid (tx = if mayI ZP ZQ then mkS (textL ZP ZQ) else ⟨#[]⟩) := Lib.hid (by rw [hmay.out, htx]; rfl)
            have hst : Hid (sl tx = textL ZP ZQ ∧ tx.size ≤ 140737488355328) := Lib.hid (by rw [htx]; exact ⟨sl_mk _ (textL_lt hmay.out), by rw [mkS_size]; exact Nat.le_trans (textL_len hmay.out) (by omega)⟩)
            replace htx := Lib.hid htx
            go_wp2_with fail
            refine (iText_any _ _ ZP ZQ _ hI.out tx htx2.out).mono ?_
            rintro en w4 ⟨rfl, hb⟩
            rw [mayI_yes hmay.out]
            replace hB := Lib.hid (hB.out.trans (hb.mono hB.out.size))
            replace K := Lib.hid (K.out.below hb)
            replace hI := Lib.hid (hI.out.below hb)
            replace hM := Lib.hid (hM.out.below hb)
            clear hb z0 z1
            go_wp2_with fail
            refine (iRead_any tx _ hst.out.2).mono ?_
            rintro en w4 ⟨P1, Q1, E1, ho, v1, v2, rfl, f1, f2, hb⟩
            rw [hst.out.1] at ho
            have hY := rdOut_itn ho f1 f2
            obtain ⟨rfl, rfl, rfl⟩ := rdOut_same ho (rdOut_text hmay.out)
            obtain ⟨A1, c1, rfl, -⟩ := f1.form
            obtain ⟨A2, c2, rfl, -⟩ := f2.form
            obtain ⟨k1, hk1⟩ : ∃ k, k = P1.length := ⟨_, rfl⟩
            obtain ⟨k2, hk2⟩ : ∃ k, k = Q1.length := ⟨_, rfl⟩
            rw [← hk1, ← hk2] at hY ⊢
            replace hk1 := Lib.hid hk1
            replace hk2 := Lib.hid hk2
            clear f1 f2 ho
            have hBn := hB.out.trans (hb.mono hB.out.size)
            replace hB := Lib.hid (hBn.alloc hBn.size (.cells #[.slice A1 k1 c1, .slice A2 k2 c2] 28))
            replace K := Lib.hid (((K.out.below hb).alloc (.cells #[.slice A1 k1 c1, .slice A2 k2 c2] 28)).snoc (Blk.new w4 28 #[.slice A1 k1 c1, .slice A2 k2 c2]))
            replace hI := Lib.hid ((hI.out.below hb).alloc (.cells #[.slice A1 k1 c1, .slice A2 k2 c2] 28))
            replace hM := Lib.hid ((hM.out.below hb).alloc (.cells #[.slice A1 k1 c1, .slice A2 k2 c2] 28))
            replace hY := Lib.hid (hY.alloc (.cells #[.slice A1 k1 c1, .slice A2 k2 c2] 28))
            clear hb hBn
            go_upto_region 16 with fail
            generalize hW : w4.alloc (.cells #[.slice A1 k1 c1, .slice A2 k2 c2] 28) = wb at hB K hI hM hY ⊢
            generalize hg : w4.heap.size = gy at K ⊢
            clear hW
            have z0 : wb.cell? ⟨g, 0, none⟩ = some (.slice (some ⟨p, 0, none⟩) n n) := (K.out.at_ 0 rfl).cell 0
            have z1 : wb.cell? ⟨g, 1, none⟩ = some (.slice (some ⟨r, 0, none⟩) q q) := (K.out.at_ 0 rfl).cell 1
            go_wp2_with fail
            refine (iCheckI_any _ _ P1 Q1 _ hI.out).mono ?_
            rintro en w4 ⟨rfl, hb⟩
            rw [mayI_yes hmay.out]
            replace hB := Lib.hid (hB.out.trans (hb.mono hB.out.size))
            replace K := Lib.hid (K.out.below hb)
            replace hI := Lib.hid (hI.out.below hb)
            replace hM := Lib.hid (hM.out.below hb)
            replace hY := Lib.hid (hY.out.below hb)
            clear hb z0 z1
            have z0 : w4.cell? ⟨g2, 0, none⟩ = some (.slice (some ⟨p2, 0, none⟩) (n + 1) (n + 1)) := (K.out.at_ 1 rfl).cell 0
            have z1 : w4.cell? ⟨g2, 1, none⟩ = some (.slice (some ⟨r, 0, none⟩) q q) := (K.out.at_ 1 rfl).cell 1
            go_wp2_with fail
            refine (iCheckI_any _ _ ZM Q1 _ hM.out).mono ?_
            rintro en w5 ⟨rfl, hb⟩
            rw [mayI_no hnot.out]
            replace hB := Lib.hid (hB.out.trans (hb.mono hB.out.size))
            replace K := Lib.hid (K.out.below hb)
            replace hI := Lib.hid (hI.out.below hb)
            replace hY := Lib.hid (hY.out.below hb)
            clear hb z0 z1 hM
            have z0 : w5.cell? ⟨g, 0, none⟩ = some (.slice (some ⟨p, 0, none⟩) n n) := (K.out.at_ 0 rfl).cell 0
            have z1 : w5.cell? ⟨g, 1, none⟩ = some (.slice (some ⟨r, 0, none⟩) q q) := (K.out.at_ 0 rfl).cell 1
            have z2 : w5.cell? ⟨gx, 0, none⟩ = some (.slice B1 0 0) := (K.out.at_ 2 rfl).cell 0
            have z3 : w5.cell? ⟨gx, 1, none⟩ = some (.slice B2 1 1) := (K.out.at_ 2 rfl).cell 1
            have z4 : w5.cell? ⟨gy, 0, none⟩ = some (.slice A1 k1 c1) := (K.out.at_ 3 rfl).cell 0
            have z5 : w5.cell? ⟨gy, 1, none⟩ = some (.slice A2 k2 c2) := (K.out.at_ 3 rfl).cell 1
            go_wp2_with fail
            refine (rsame_any _ _ _ _ P1 Q1 P1 Q1 _ hY.out hI.out).mono ?_
            rintro en w6 ⟨rfl, hb⟩
            rw [decide_eq_true (rfl : P1 = P1), decide_eq_true (rfl : Q1 = Q1)]
            replace hB := Lib.hid (hB.out.trans (hb.mono hB.out.size))
            clear hb z0 z1 z2 z3 z4 z5 K
            go_wp2_with fail
            refine (lives_any _).mono ?_
            rintro en wz ⟨rfl, hb⟩
            have hBz := Lib.hid (hB.out.trans (hb.mono hB.out.size))
            clear hb
            go_wp2_with fail
            go_ret
            exact ⟨rfl, hBz.out⟩
end Go.Proofs.YtbddlbhanpjdnaaDoor
