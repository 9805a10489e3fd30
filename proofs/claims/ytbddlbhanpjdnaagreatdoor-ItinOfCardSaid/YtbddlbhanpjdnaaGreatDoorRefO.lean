/- Package filigreeref22: Of. -/
import Derived.Test.YtbddlbhanpjdnaaGreatDoorRefS
import Derived.Test.YtbddlbhanpjdnaaGreatDoorRefR
import Derived.Test.YtbddlbhanpjdnaaGreatDoorOrbQ
import Derived.Deep.CutRange
namespace Go.Proofs.YtbddlbhanpjdnaaGreatDoor
open Go.RowKit Go.Sort

/-- A row of one's own, and an error. -/
def RetPfE (P Q : List Nat) (E : Int) (w : World) (e : Ending) (w' : World) : Prop :=
  ∃ v1 v2, e = .returned (.tuple #[.agg #[v1, v2], .int .i64 E]) ∧ Pf w' w.heap.size v1 P ∧ Pf w' w.heap.size v2 Q ∧ Below w.heap.size w w'

theorem drop_snoc {α : Type} (l : List α) (p : Nat) (x : α) (h : p ≤ l.length) : (l ++ [x]).drop p = l.drop p ++ [x] := List.drop_append_of_le_length h
theorem take_get {l : List Nat} {i x : Nat} (h : l[i]? = some x) : l.take (i + 1) = l.take i ++ [x] := by
  obtain ⟨hi, e⟩ := List.getElem?_eq_some_iff.1 h
  rw [List.take_succ_eq_append_getElem hi, e]

theorem own_grownR {w w' : World} {row : Option Nat} {base : Nat} {T : TypeId} {size : Nat} {v : Value} {n : Nat} {xs : List Value} (h : w.ownsRow base T size v n xs) (hb : w.grownBy w' row) (hne : ∀ g, v.ownBlock = some g → some g = row → False) : w'.ownsRow base T size v n xs := by
  refine ⟨h.1, ?_⟩
  rcases h.2 with hn | ⟨g, cap, cur, rfl, hg, hh, rest⟩
  · exact .inl hn
  · exact .inr ⟨g, cap, cur, rfl, hg, (hb.block g (heap_lt hh) (fun e => hne g rfl e)).trans hh, rest⟩

set_option maxRecDepth 100000 in
set_option maxHeartbeats 8000000 in
/-- filigreeref22.Of -/
theorem rOf_any (s t x y dn : Nat) (w : World) (hst : s < t) (ht : t ≤ 2147483647) (hxy : x < y) (hy9 : y ≤ 2147483647) (hgc : Nat.gcd x y = 1) (hd : 2 ≤ dn) (hd2 : dn ≤ 64) (E : Int) (hE : E = if 4096 < orbN y dn then 211 else 0)
    (PP QQ : List Nat) (hPP : PP = if E = 0 then ofP s t x y dn else []) (hQQ : QQ = if E = 0 then ofQ s t x y dn else []) :
    Calls Tryz.prog 11 #[.agg #[.int .u64 (s : Int), .int .u64 (t : Int)], .agg #[.int .u64 (x : Int), .int .u64 (y : Int)], .int .i64 (dn : Int)] w (RetPfE PP QQ E w) := by
  obtain ⟨i0, hi00, hz0, hz1, hz2⟩ := info_parts info_u8
  have hy0 : 0 < y := by omega
  obtain ⟨K, hK⟩ : ∃ K, K = orbN y dn := ⟨_, rfl⟩
  have hOr := fun W => rorbit_any x y dn 4097 W hxy hy9 hgc hd hd2 (by omega)
  rw [← hK] at hOr hE
  have ka := ((Blk.new w 37 #[.int .u64 (s : Int), .int .u64 (t : Int)]).alloc (.cells #[.int .u64 (x : Int), .int .u64 (y : Int)] 37)).alloc (.cells #[.slice none 0 0, .slice none 0 0] 30)
  have kr := Blk.new ((w.alloc (.cells #[.int .u64 (s : Int), .int .u64 (t : Int)] 37)).alloc (.cells #[.int .u64 (x : Int), .int .u64 (y : Int)] 37)) 30 #[.slice none 0 0, .slice none 0 0]
  have hBW : Below w.heap.size w (((w.alloc (.cells #[.int .u64 (s : Int), .int .u64 (t : Int)] 37)).alloc (.cells #[.int .u64 (x : Int), .int .u64 (y : Int)] 37)).alloc (.cells #[.slice none 0 0, .slice none 0 0] 30)) := (((Below.refl _ w).alloc (Nat.le_refl _) _).alloc (by simp) _).alloc (by simp; omega) _
  simp only [World.size_alloc] at kr
  replace ka := Lib.hid ka
  replace kr := Lib.hid kr
  replace hBW := Lib.hid hBW
  replace hOr := Lib.hid hOr
  replace hE := Lib.hid hE
  replace hPP := Lib.hid hPP
  replace hQQ := Lib.hid hQQ
  replace hK := Lib.hid hK
  go_enter Tryz.func11, Tryz.ntmps11
  go_wp2_with fail
  refine (hOr.out _).mono ?_
  rintro en w1 ⟨vl, rfl, hown, hb⟩
  replace ka := Lib.hid (Blk.below ka.out hb)
  replace kr := Lib.hid (Blk.below kr.out hb)
  replace hBW := Lib.hid (hBW.out.trans (hb.mono hBW.out.size))
  clear hb hOr
  by_cases hm : 4096 < K
  · obtain rfl : E = 211 := by rw [hE.out, if_pos hm]
    have hdec : decide (K < 4097) = false := decide_eq_false (by omega)
    rw [hdec]
    have r0 : w1.cell? ⟨w.heap.size + 1 + 1, 0, none⟩ = some (.slice none 0 0) := kr.out.cell 0
    have r1 : w1.cell? ⟨w.heap.size + 1 + 1, 1, none⟩ = some (.slice none 0 0) := kr.out.cell 1
    have f0 := kr.out.frozen 0
    have f1 := kr.out.frozen 1
    have K2 := Lib.hid (Blk.set_ (Blk.set_ kr.out 0 (.slice none 0 0)) 1 (.slice none 0 0))
    have hB2 := Lib.hid ((hBW.out.setCell (p := ⟨w.heap.size + 1 + 1, 0, none⟩) (by simp; omega) (.slice none 0 0)).setCell (p := ⟨w.heap.size + 1 + 1, 1, none⟩) (by simp; omega) (.slice none 0 0))
    clear hdec hown
    go_wp2_with fail
    have q0 := K2.out.cell 0
    have q1 := K2.out.cell 1
    refine bodyPost_ret (v := .tuple #[.agg #[.slice none 0 0, .slice none 0 0], .int .i64 211]) (by simp [results, Tryz.results11, go_sem, q0, q1]) rfl ⟨_, _, rfl, ?_, ?_, hB2.out⟩
    · rw [hPP.out]; exact Pf.nil_ _ _ none 0 (Nat.zero_le _)
    · rw [hQQ.out]; exact Pf.nil_ _ _ none 0 (Nat.zero_le _)
  · obtain rfl : E = 0 := by rw [hE.out, if_neg hm]
    have hdec : decide (K < 4097) = true := decide_eq_true (by omega)
    have hmin : min 4097 K = K := by omega
    rw [hdec]
    rw [hmin] at hown
    have hK1 : 1 ≤ K := by rw [hK.out]; exact orbN_pos hy0
    obtain ⟨gl, cl, rfl⟩ : ∃ g c, vl = .slice (some ⟨g, 0, none⟩) K c := by
      rcases own_forms hown with ⟨e, e2⟩ | ⟨g, c, e⟩
      · omega
      · exact ⟨_, _, e⟩
    have hcl : K ≤ cl := by
      rcases hown.2 with ⟨e, -⟩ | ⟨g, cap, cur, e, -, -, h, -⟩
      · cases e
      · injection e with _ _ e; rw [e]; exact h
    obtain ⟨p, hp⟩ : ∃ p, p = (kindN y dn).1 := ⟨_, rfl⟩
    have hpK : p < K := by have h1 := kindN_pos (d := dn) hy0; rw [hK.out, orbN, ← hp]; omega
    obtain ⟨⟨N, D⟩, hND⟩ : ∃ m, m = orbM x y dn p := ⟨_, rfl⟩
    have hback : orbM x y dn K = (N, D) := by rw [hK.out, orbM_back (by omega) hy0, ← hp, ← hND]
    have hfl := fun n => orbM_facts (x := x) (d := dn) (n := n) hy0
    obtain ⟨k1, hk1⟩ : ∃ k, K = k + 1 := ⟨K - 1, by omega⟩
    obtain ⟨⟨N1, D1⟩, hND1⟩ : ∃ m, m = orbM x y dn k1 := ⟨_, rfl⟩
    have hnext : orbM N1 D1 dn 1 = (N, D) := by rw [orbM_next hy0 hND1, ← hk1, hback]
    obtain ⟨e1, e2, e3⟩ := hfl k1
    rw [← hND1] at e1 e2 e3
    simp only at e1 e2 e3
    have hTurn : Hid (∀ W, Calls Tryz.prog 39 #[.agg #[.int .u64 (N1 : Int), .int .u64 (D1 : Int)], .int .i64 (dn : Int)] W (RetPart N D W)) := Lib.hid (fun W => by
      have h : rd (turnX N1 D1 dn 1) D1 = (N, D) := hnext
      unfold rd at h
      obtain ⟨h1, h2⟩ := Prod.mk.inj h
      refine rturn_any N1 D1 dn (turnX N1 D1 dn 1) N D W (by omega) (by omega) (by omega) hd2 (Lib.hid ?_) (Lib.hid h1.symm) (Lib.hid h2.symm)
      unfold turnX
      simp)
    have hcells : Hid (∀ W : World, W.ownsRow 0 37 2 (.slice (some ⟨gl, 0, none⟩) K cl) K (angC (orbL x y dn K)) → ∀ i : Nat, i < K → W.cell? ⟨gl, i * 2, none⟩ = some (.int .u64 ((orbM x y dn i).1 : Int)) ∧ W.cell? ⟨gl, i * 2 + 1, none⟩ = some (.int .u64 ((orbM x y dn i).2 : Int))) := Lib.hid (fun W ho i hi => by
      obtain ⟨s0, s1⟩ := angC_get _ i _ (orbL_get (x := x) (y := y) (d := dn) hi)
      exact ⟨by rw [ho.cellAt _ (by omega)]; exact s0, by rw [ho.cellAt _ (by omega)]; exact s1⟩)
    have hnew : Hid (∀ i, i < p → orbM x y dn i ≠ (N, D)) := Lib.hid (fun i hi => by rw [hND]; exact orbM_new (by omega) hy0 hgc hi (by rw [← hK.out]; exact hpK))
    have hown0 := Lib.hid (own_le hown (Nat.zero_le _))
    have hnd : Hid (orbM x y dn p = (N, D)) := Lib.hid hND.symm
    have hnd1 : Hid (orbM x y dn k1 = (N1, D1)) := Lib.hid hND1.symm
    have hfl2 := Lib.hid hfl
    have hg := (hcells.out w1 hown0.out k1 (by omega))
    rw [← hND1] at hg
    obtain ⟨c0, c1⟩ := hg
    simp only at c0 c1
    have hKI : (K : Int) - 1 = (k1 : Int) := by omega
    have hkKI : (k1 : Int) < (K : Int) := by omega
    have hKcl : (K : Int) ≤ (cl : Int) := by omega
    have hk1n : k1 < K := by omega
    replace hp := Lib.hid hp
    clear hfl hND hND1 hown hback hnext e1 e2 e3 hdec hmin hE
    replace hk1 := Lib.hid hk1
    go_wp2_with fail
    refine (hTurn.out _).mono ?_
    rintro en w2 ⟨rfl, hb⟩
    have kn := Lib.hid (Blk.new w2 37 #[.int .u64 (N : Int), .int .u64 (D : Int)])
    replace ka := Lib.hid ((Blk.below ka.out hb).alloc (.cells #[.int .u64 (N : Int), .int .u64 (D : Int)] 37))
    replace kr := Lib.hid ((Blk.below kr.out hb).alloc (.cells #[.int .u64 (N : Int), .int .u64 (D : Int)] 37))
    have hv := Lib.hid ((own_below hown0.out hb).alloc (.cells #[.int .u64 (N : Int), .int .u64 (D : Int)] 37))
    have hBn := hBW.out.trans (hb.mono hBW.out.size)
    have hB := Lib.hid (hBn.alloc hBn.size (.cells #[.int .u64 (N : Int), .int .u64 (D : Int)] 37))
    clear hb hBn hBW hown0 c0 c1 hTurn
    go_upto_region 5 with fail
    generalize hW : w2.alloc (.cells #[.int .u64 (N : Int), .int .u64 (D : Int)] 37) = w3 at ka kr kn hv hB ⊢
    generalize hg : w2.heap.size = gn at kn ⊢
    clear hW hg w2
    have hgl : Hid (gl < w3.heap.size) := Lib.hid (hv.out.lt gl rfl).2
    go_wp2_with fail
    go_loopw [11] (fun iv wr => ∃ i nd : Nat, iv = .int .i64 (i : Int) ∧ i ≤ p ∧ wr = w3.drewN nd) (fun iv _ => p - (intOf iv).toNat)
    case atStart => exact ⟨0, 0, rfl, Nat.zero_le _, rfl⟩
    case round =>
      obtain ⟨i, nd, rfl, hi, rfl⟩ := hrel
      have hiK : i < K := by omega
      have hiKI : (i : Int) < (K : Int) := by omega
      obtain ⟨d0, d1⟩ := hcells.out w3 hv.out i hiK
      obtain ⟨⟨A, B⟩, hAB⟩ : ∃ m, m = orbM x y dn i := ⟨_, rfl⟩
      rw [← hAB] at d0 d1
      simp only at d0 d1
      have n0 : w3.cell? ⟨gn, 0, none⟩ = some (.int .u64 (N : Int)) := kn.out.cell 0
      have n1 : w3.cell? ⟨gn, 1, none⟩ = some (.int .u64 (D : Int)) := kn.out.cell 1
      by_cases hip : i < p
      · have hne := hnew.out i hip
        rw [← hAB] at hne
        replace hAB := Lib.hid hAB
        by_cases hA : A = N
        · have x1 : ((A : Int) == (N : Int)) = true := by rw [beq_iff_eq]; omega
          have hBD : B ≠ D := fun e => hne (by rw [hA, e])
          have x2 : ((B : Int) == (D : Int)) = false := by rw [beq_eq_false_iff_ne]; omega
          clear hne hBD hA
          go_wp2_with fail
          go_quiet (fail)
          go_wp2_with fail
          go_roundw
          case rel => exact ⟨i + 1, nd + nq, by go_num, by omega, by first | rfl | rw [World.drewN_drewN]⟩
          case measure => simp [intOf]; omega
        · have x1 : ((A : Int) == (N : Int)) = false := by rw [beq_eq_false_iff_ne]; omega
          clear hne hA
          go_wp2_with fail
          go_quiet (fail)
          go_wp2_with fail
          go_roundw
          case rel => exact ⟨i + 1, nd + nq, by go_num, by omega, by first | rfl | rw [World.drewN_drewN]⟩
          case measure => simp [intOf]; omega
      · obtain rfl : p = i := by omega
        have hAN := hAB.trans hnd.out
        obtain ⟨rfl, rfl⟩ := Prod.mk.inj hAN
        have x1 : ((A : Int) == (A : Int)) = true := beq_self_eq_true _
        have x2 : ((B : Int) == (B : Int)) = true := beq_self_eq_true _
        replace hAB := Lib.hid hAB
        clear hAN
        go_wp2_with fail
        go_quiet (fail)
        clear x1 x2 d0 d1 n0 n1
        go_upto_region 9 with fail
        obtain ⟨w4, hw4⟩ : ∃ w4, w4 = w3.drewN (nd + nq) := ⟨_, rfl⟩
        have ka4 : Blk w4 w.heap.size 37 #[.int .u64 (s : Int), .int .u64 (t : Int)] := by rw [hw4]; exact ka.out
        have kr4 : Blk w4 (w.heap.size + 1 + 1) 30 #[.slice none 0 0, .slice none 0 0] := by rw [hw4]; exact kr.out
        have hv4 : w4.ownsRow 0 37 2 (.slice (some ⟨gl, 0, none⟩) K cl) K (angC (orbL x y dn K)) := by rw [hw4]; exact hv.out
        have hB4 : Below w.heap.size w w4 := by rw [hw4]; exact below_drewN hB.out _
        have hgl4 : gl < w4.heap.size := by rw [hw4]; exact hgl.out
        have hz34 : w3.heap.size = w4.heap.size := by rw [hw4]; rfl
        rw [← hw4, hz34]
        have ks := Blk.new w4 30 #[.slice none 0 0, .slice none 0 0]
        have hr4 := kr4.lt
        replace ka := Lib.hid (ka4.alloc (.cells #[.slice none 0 0, .slice none 0 0] 30))
        replace kr := Lib.hid (kr4.alloc (.cells #[.slice none 0 0, .slice none 0 0] 30))
        replace hv := Lib.hid (hv4.alloc (.cells #[.slice none 0 0, .slice none 0 0] 30))
        replace hB := Lib.hid (hB4.alloc hB4.size (.cells #[.slice none 0 0, .slice none 0 0] 30))
        have hsz : gl < w4.heap.size ∧ w.heap.size + 1 + 1 < w4.heap.size ∧ w4.heap.size + 1 ≤ (w4.alloc (.cells #[.slice none 0 0, .slice none 0 0] 30)).heap.size := ⟨hgl4, hr4, by simp⟩
        generalize hW : w4.alloc (.cells #[.slice none 0 0, .slice none 0 0] 30) = w5 at ka kr hv hB ks hsz ⊢
        generalize hg : w4.heap.size = gs at ks hsz ⊢
        clear hW hg hz34 hw4 ka4 kr4 hv4 hB4 hgl4 hr4 kn hgl
        obtain ⟨hz5, hz6, hz7⟩ := hsz

        obtain ⟨L, hL⟩ : ∃ L, L = symL s t x y dn K := ⟨_, rfl⟩
        have hLl : L.length = K := by rw [hL, symL_len]
        have hLg : Hid (∀ i : Nat, i < K → L[i]? = some (symV s t (orbM x y dn i).1 (orbM x y dn i).2 dn)) := Lib.hid (fun i hi => by rw [hL, symL_get hi]; rfl)
        have hL9 : Hid (∀ v, v ∈ L → v < 256) := Lib.hid (fun v hv => by
          rw [hL, symL] at hv
          obtain ⟨m, -, rfl⟩ := List.mem_map.1 hv
          rcases symV_or (s := s) (t := t) (p := m.1) (q := m.2) (show 0 < dn by omega) with h | h <;> omega)
        have hres : Hid (PP = lowP (L.take p) (L.drop p) ∧ QQ = lowQ (L.take p) (L.drop p)) := Lib.hid (by
          rw [hPP.out, hQQ.out, hL, hK.out, hp.out]
          first | exact ⟨if_pos trivial, if_pos trivial⟩ | exact ⟨if_pos rfl, if_pos rfl⟩)
        replace hL := Lib.hid hL
        go_wp2_with fail
        go_loopw [13, 14] (fun iv _ wr => ∃ (i : Nat) (v1 v2 : Value) (B2 : Nat), iv = .int .i64 (i : Int) ∧ i ≤ K ∧ wr.ownsRow (gs + 1) 5 1 v1 (min i p) (ivs .u8 (L.take (min i p))) ∧ (∀ g, v1.ownBlock = some g → g < B2) ∧ gs + 1 ≤ B2 ∧ B2 ≤ wr.heap.size ∧
          wr.ownsRow B2 5 1 v2 (i - p) (ivs .u8 ((L.take i).drop p)) ∧ (i ≤ p → v2 = .slice none 0 0) ∧ Blk wr gs 30 #[v1, v2] ∧ Blk wr w.heap.size 37 #[.int .u64 (s : Int), .int .u64 (t : Int)] ∧ Blk wr (w.heap.size + 1 + 1) 30 #[.slice none 0 0, .slice none 0 0] ∧
          wr.ownsRow 0 37 2 (.slice (some ⟨gl, 0, none⟩) K cl) K (angC (orbL x y dn K)) ∧ Below w.heap.size w wr) (fun iv _ _ => K - (intOf iv).toNat)
        case atStart =>
          refine ⟨0, _, _, gs + 1, rfl, Nat.zero_le _, ?_, ?_, Nat.le_refl _, by omega, ?_, fun _ => rfl, ks, ka.out, kr.out, hv.out, hB.out⟩
          · rw [Nat.zero_min]; exact World.ownsRow_nil _ _ _ _
          · intro g hg; cases hg
          · rw [Nat.zero_sub, List.take_zero, List.drop_nil]; exact World.ownsRow_nil _ _ _ _
        case round =>
          clear ka kr hv hB ks
          obtain ⟨i, v1, v2, B2, rfl, hi, o1, hb1, hB2l, hB2s, o2, hv2n, ks, ka, kr, hv, hB⟩ := hrel
          by_cases hiK2 : i < K
          · have hiI : (i : Int) < (K : Int) := by omega
            obtain ⟨⟨A', B'⟩, hAB'⟩ : ∃ m, m = orbM x y dn i := ⟨_, rfl⟩
            obtain ⟨d0, d1⟩ := hcells.out wr hv i hiK2
            obtain ⟨e1, e2, e3⟩ := hfl2.out i
            have hLi := hLg.out i hiK2
            rw [← hAB'] at d0 d1 e1 e2 e3 hLi
            simp only at d0 d1 e1 e2 e3 hLi
            obtain ⟨v, hvv⟩ : ∃ v, v = symV s t A' B' dn := ⟨_, rfl⟩
            rw [← hvv] at hLi
            have m0 : ∀ d os, (grow (redrawn wr d) os).cell? ⟨w.heap.size, 0, none⟩ = some (.int .u64 (s : Int)) := cell_regrown (ka.cell 0)
            have m1 : ∀ d os, (grow (redrawn wr d) os).cell? ⟨w.heap.size, 1, none⟩ = some (.int .u64 (t : Int)) := cell_regrown (ka.cell 1)
            have m2 : ∀ d os, (grow (redrawn wr d) os).cell? ⟨gl, i * 2, none⟩ = some (.int .u64 (A' : Int)) := cell_regrown d0
            have m3 : ∀ d os, (grow (redrawn wr d) os).cell? ⟨gl, i * 2 + 1, none⟩ = some (.int .u64 (B' : Int)) := cell_regrown d1
            have cc : ∀ d os, Calls Tryz.prog 14 #[.agg #[.int .u64 (s : Int), .int .u64 (t : Int)], .agg #[.int .u64 (A' : Int), .int .u64 (B' : Int)], .int .i64 (dn : Int)] (grow (redrawn wr d) os) fun e w'' => e = .returned (.int .u8 (v : Int)) ∧ ∃ p : Regrown, w'' = grow (redrawn wr p.d) p.os :=
              fun d os => Calls.regrown_of (by rw [hvv]; exact rSymA_any s t A' B' dn _ hst ht e2 (by omega) hd hd2)
            replace o1 := Lib.hid o1
            replace o2 := Lib.hid o2
            replace hb1 := Lib.hid hb1
            replace hv2n := Lib.hid hv2n
            replace hLi := Lib.hid hLi
            replace hAB' := Lib.hid hAB'
            replace hvv := Lib.hid hvv
            replace ks := Lib.hid ks
            replace ka := Lib.hid ka
            replace kr := Lib.hid kr
            replace hv := Lib.hid hv
            replace hB := Lib.hid hB
            clear d0 d1 e1 e2 e3
            go_wp2_with fail
            refine wp_region_quiet_below (by kernel_rfl) (by kernel_rfl) ?_
            iterate 6 (quiet_step (fail))
            quiet_step (exact cc _ _)
            iterate 1 (quiet_step (fail))
            refine wpQuiet_nil ?_
            intro w6 hw'
            have hb : Below wr.heap.size wr w6 := by
              obtain ⟨p, rfl⟩ := hw'
              exact below_regrown wr p.d p.os
            have hB26 : B2 ≤ w6.heap.size := Nat.le_trans hB2s hb.size
            replace o1 := Lib.hid (own_below o1.out hb)
            replace o2 := Lib.hid (own_below o2.out hb)
            replace ks := Lib.hid (Blk.below ks.out hb)
            replace ka := Lib.hid (Blk.below ka.out hb)
            replace kr := Lib.hid (Blk.below kr.out hb)
            replace hv := Lib.hid (own_below hv.out hb)
            replace hB := Lib.hid (hB.out.trans (hb.mono hB.out.size))
            clear hw' hb cc m0 m1 m2 m3 hB2s
            have hgsw := ks.out.lt
            by_cases hip2 : i < p
            · have hipI : (i : Int) < (p : Int) := by omega
              obtain rfl : v2 = .slice none 0 0 := hv2n.out (by omega)
              have hmn : min i p = i := by omega
              have hmn1 : min (i + 1) p = i + 1 := by omega
              have o1' := o1.out
              rw [hmn] at o1'
              obtain ⟨uA, uc, rfl⟩ := own_forms3 o1'
              have hnx : Hid (ivs .u8 (L.take i) ++ [.int .u8 (v : Int)] = ivs .u8 (L.take (i + 1))) := Lib.hid (by rw [take_get hLi.out, ivs_append]; rfl)
              replace o1' := Lib.hid o1'
              have b0 : w6.cell? ⟨gs, 0, none⟩ = some (.slice uA i uc) := ks.out.cell 0
              clear hmn o1 o2 hv2n
              go_wp2_with (at_builtin; refine wpList_append_own _ rfl _ _ 28 rfl (gs + 1) 5 i0 (.int .u8 0) 1 1 Tryz.underlying28 hi00 hz0 hz1 hz2 rfl (by decide) _ _ _ rfl (o1'.out.alloc _) ⟨w6.heap.size, 0, none⟩ 1 1 [.int .u8 (v : Int)] rfl rfl ?d1 ?d2 ?d3 ?d4 ?d5 ?_)
              case d1 =>
                intro j' u hu
                obtain rfl : j' = 0 := by have := (List.getElem?_eq_some_iff.1 hu).1; simp at this; omega
                cases hu
                exact (cell_of_row _ _ 0 #[.int .u8 (v : Int)] 5 (0, 0) (heap_alloc_new w6 _)).trans rfl
              case d2 => intro u hu; simp at hu; rw [hu]; rfl
              case d3 => unfold maxLen; omega
              case d4 => omega
              case d5 => simp; omega
              intro v' w7 hown' hgrow _
              have hne : ∀ g T cs, Blk w6 g T cs → g < gs + 1 → Blk w7 g T cs := fun g T cs h hg => Blk.grown (h.alloc _) hgrow (fun e => by have := (o1'.out.lt _ e.symm).1; omega)
              have ks7 := hne gs _ _ ks.out (by omega)
              have ka7 := hne _ _ _ ka.out (by omega)
              have kr7 := hne _ _ _ kr.out (by omega)
              have hv7 : w7.ownsRow 0 37 2 (.slice (some ⟨gl, 0, none⟩) K cl) K (angC (orbL x y dn K)) := own_grownR (hv.out.alloc _) hgrow (fun g hg e => by have h1 := (o1'.out.lt _ e.symm).1; have h2 : gl = g := (by simpa [Value.ownBlock] using hg); omega)
              have hB7 : Below w.heap.size w w7 := (hB.out.alloc hB.out.size _).grown hgrow (by have := hB.out.size; simp; omega) (fun k hk => by have := (o1'.out.lt k hk).1; omega)
              rw [hnx.out] at hown'
              obtain ⟨uA', uc', rfl⟩ := own_forms3 hown'
              have c0 : w7.cell? ⟨gs, 0, none⟩ = some (.slice uA i uc) := ks7.cell 0
              have f0 := ks7.frozen 0
              have hU := gb_set (gb_refl w7 (some gs)) 0 (.slice uA' (i + 1) uc')
              have ks8 := Lib.hid (ks7.set_ 0 (.slice uA' (i + 1) uc'))
              have ka8 := Lib.hid (ka7.far (p := ⟨gs, 0, none⟩) (by simp; omega) (.slice uA' (i + 1) uc'))
              have kr8 := Lib.hid (kr7.far (p := ⟨gs, 0, none⟩) (by simp; omega) (.slice uA' (i + 1) uc'))
              have hv8 := Lib.hid (own_grownR hv7 hU (fun g hg e => by have h2 : gl = g := (by simpa [Value.ownBlock] using hg); injection e; omega))
              have o8 := ownsRow_setCell_below hown' (a := ⟨gs, 0, none⟩) (by show gs < gs + 1; omega) (.slice uA' (i + 1) uc')
              have hB8 := Lib.hid (hB7.setCell (p := ⟨gs, 0, none⟩) (by show _ ≤ gs; omega) (.slice uA' (i + 1) uc'))
              have hz8 : gs + 1 ≤ (w7.setCell ⟨gs, 0, none⟩ (.slice uA' (i + 1) uc')).heap.size := by have := ks7.lt; simp [World.setCell]; omega
              have hbb : ∀ g, (Value.slice uA' (i + 1) uc').ownBlock = some g → g < (w7.setCell ⟨gs, 0, none⟩ (.slice uA' (i + 1) uc')).heap.size := fun g hg => (o8.lt g hg).2
              have hdr : Hid ((L.take (i + 1)).drop p = []) := Lib.hid (List.drop_eq_nil_of_le (by rw [List.length_take]; omega))
              have hsb : i + 1 - p = 0 := by omega
              replace o8 := Lib.hid o8
              replace hbb := Lib.hid hbb
              replace hz8 := Lib.hid hz8
              replace hmn1 := Lib.hid hmn1
              replace hsb := Lib.hid hsb
              clear hgrow hne ks7 ka7 kr7 hv7 hB7 hown' hU b0 ks ka kr hv hB o1' hb1 hB26
              go_wp2_with fail
              go_roundw
              case rel => exact ⟨i + 1, _, .slice none 0 0, _, by go_num, by omega, by rw [hmn1.out]; exact o8.out, hbb.out, hz8.out, Nat.le_refl _, by rw [hsb.out, hdr.out]; exact World.ownsRow_nil _ _ _ _, fun _ => rfl, ks8.out, ka8.out, kr8.out, hv8.out, hB8.out⟩
              case measure => simp [intOf]; omega
            · have hipI : ¬ (i : Int) < (p : Int) := by omega
              have hmn : min i p = p := by omega
              have hmn1 : min (i + 1) p = p := by omega
              obtain ⟨j, hj⟩ : ∃ j, j = i - p := ⟨_, rfl⟩
              have hj1 : i + 1 - p = j + 1 := by omega
              have o1' := o1.out
              have o2' := o2.out
              rw [hmn] at o1'
              rw [← hj] at o2'
              obtain ⟨qA, qc, rfl⟩ := own_forms3 o1'
              obtain ⟨uA, uc, rfl⟩ := own_forms3 o2'
              have hnx : Hid (ivs .u8 ((L.take i).drop p) ++ [.int .u8 (v : Int)] = ivs .u8 ((L.take (i + 1)).drop p)) := Lib.hid (by rw [take_get hLi.out, drop_snoc _ _ _ (by rw [List.length_take]; omega), ivs_append]; rfl)
              replace o1' := Lib.hid o1'
              replace o2' := Lib.hid o2'
              have b0 : w6.cell? ⟨gs, 1, none⟩ = some (.slice uA j uc) := ks.out.cell 1
              have hj9 : j ≤ K := by omega
              replace hj := Lib.hid hj
              clear hmn o1 o2 hv2n
              go_wp2_with (at_builtin; refine wpList_append_own _ rfl _ _ 28 rfl B2 5 i0 (.int .u8 0) 1 1 Tryz.underlying28 hi00 hz0 hz1 hz2 rfl (by decide) _ _ _ rfl (o2'.out.alloc _) ⟨w6.heap.size, 0, none⟩ 1 1 [.int .u8 (v : Int)] rfl rfl ?hole1 ?hole2 ?hole3 ?hole4 ?hole5 ?_)
              case hole2 => first | rfl | (intro u hu; simp at hu; rw [hu]; rfl)
              case hole3 => first | omega | (unfold maxLen; omega)
              case hole4 => first | omega | (simp; omega)
              case hole5 => first | omega | (simp; omega)
              intro v' w7 hown' hgrow _
              have hne : ∀ g T cs, Blk w6 g T cs → g < gs + 1 → Blk w7 g T cs := fun g T cs h hg => Blk.grown (h.alloc _) hgrow (fun e => by have := (o2'.out.lt _ e.symm).1; omega)
              have ks7 := hne gs _ _ ks.out (by omega)
              have ka7 := hne _ _ _ ka.out (by omega)
              have kr7 := hne _ _ _ kr.out (by omega)
              have hv7 : w7.ownsRow 0 37 2 (.slice (some ⟨gl, 0, none⟩) K cl) K (angC (orbL x y dn K)) := own_grownR (hv.out.alloc _) hgrow (fun g hg e => by have h1 := (o2'.out.lt _ e.symm).1; have h2 : gl = g := (by simpa [Value.ownBlock] using hg); omega)
              have hB7 : Below w.heap.size w w7 := (hB.out.alloc hB.out.size _).grown hgrow (by have := hB.out.size; simp; omega) (fun k hk => by have := (o2'.out.lt k hk).1; omega)
              have o17 : w7.ownsRow (gs + 1) 5 1 (.slice qA p qc) p (ivs .u8 (L.take p)) := own_grownR (o1'.out.alloc _) hgrow (fun g hg e => by have h1 := (o2'.out.lt _ e.symm).1; have h2 := hb1.out g hg; omega)
              rw [hnx.out] at hown'
              obtain ⟨uA', uc', rfl⟩ := own_forms3 hown'
              have c0 : w7.cell? ⟨gs, 1, none⟩ = some (.slice uA j uc) := ks7.cell 1
              have f0 := ks7.frozen 1
              have hU := gb_set (gb_refl w7 (some gs)) 1 (.slice uA' (j + 1) uc')
              have ks8 := Lib.hid (ks7.set_ 1 (.slice uA' (j + 1) uc'))
              have ka8 := Lib.hid (ka7.far (p := ⟨gs, 1, none⟩) (by simp; omega) (.slice uA' (j + 1) uc'))
              have kr8 := Lib.hid (kr7.far (p := ⟨gs, 1, none⟩) (by simp; omega) (.slice uA' (j + 1) uc'))
              have hv8 := Lib.hid (own_grownR hv7 hU (fun g hg e => by have h2 : gl = g := (by simpa [Value.ownBlock] using hg); injection e; omega))
              have o8 := Lib.hid (ownsRow_setCell_below hown' (a := ⟨gs, 1, none⟩) (by show gs < B2; omega) (.slice uA' (j + 1) uc'))
              have o18 := Lib.hid (ownsRow_setCell_below o17 (a := ⟨gs, 1, none⟩) (by show gs < gs + 1; omega) (.slice uA' (j + 1) uc'))
              have hB8 := Lib.hid (hB7.setCell (p := ⟨gs, 1, none⟩) (by show _ ≤ gs; omega) (.slice uA' (j + 1) uc'))
              have hz8 : B2 ≤ (w7.setCell ⟨gs, 1, none⟩ (.slice uA' (j + 1) uc')).heap.size := by have := hgrow.size; simp [World.setCell] at this ⊢; omega
              replace hz8 := Lib.hid hz8
              replace hmn1 := Lib.hid hmn1
              replace hj1 := Lib.hid hj1
              clear hgrow hne ks7 ka7 kr7 hv7 hB7 hown' hU b0 ks ka kr hv hB o1' o2' o17
              go_wp2_with fail
              go_roundw
              case rel => exact ⟨i + 1, _, _, B2, by go_num, by omega, by rw [hmn1.out]; exact o18.out, hb1.out, by omega, hz8.out, by rw [hj1.out]; exact o8.out, fun h => by omega, ks8.out, ka8.out, kr8.out, hv8.out, hB8.out⟩
              case measure => simp [intOf]; omega
          · obtain rfl : K = i := by omega
            have hiI : ¬ (K : Int) < (K : Int) := by omega
            rw [show min K p = p by omega] at o1
            have hdt : (L.take K).drop p = L.drop p := by rw [List.take_of_length_le (by omega)]
            rw [hdt] at o2
            obtain ⟨qA, qc, rfl⟩ := own_forms3 o1
            obtain ⟨uA, uc, rfl⟩ := own_forms3 o2
            have hPl : (L.take p).length = p := by rw [List.length_take]; omega
            have hQl : (L.drop p).length = K - p := by rw [List.length_drop]; omega
            have JI : Itn wr (.slice qA p qc) (.slice uA (K - p) uc) (L.take p) (L.drop p) := ⟨⟨_, _, _, _, rfl, own_rdn o1⟩, ⟨_, _, _, _, rfl, own_rdn o2⟩, fun v hv => hL9.out v (List.mem_of_mem_take hv), fun v hv => hL9.out v (List.mem_of_mem_drop hv), by omega, by omega⟩
            have hLow := Lib.hid (rLowest_any _ _ _ _ wr JI (by omega) (by omega) (by omega))
            rw [← hres.out.1, ← hres.out.2] at hLow
            have b0 : wr.cell? ⟨gs, 0, none⟩ = some (.slice qA p qc) := ks.cell 0
            have b1 : wr.cell? ⟨gs, 1, none⟩ = some (.slice uA (K - p) uc) := ks.cell 1
            replace kr := Lib.hid kr
            replace hB := Lib.hid hB
            clear o1 o2 hb1 hv2n ks ka hv JI hPl hQl hdt
            go_wp2_with fail
            refine hLow.out.mono ?_
            rintro en w8 ⟨z1, z2, rfl, g1, g2, hb⟩
            obtain ⟨Z1, y1, rfl, -⟩ := g1.form
            obtain ⟨Z2, y2, rfl, -⟩ := g2.form
            have kr8 := Blk.below kr.out hb
            have hB8 := hB.out.trans (hb.mono hB.out.size)
            have hz9 := hb.size
            have r0 : w8.cell? ⟨w.heap.size + 1 + 1, 0, none⟩ = some (.slice none 0 0) := kr8.cell 0
            have r1 : w8.cell? ⟨w.heap.size + 1 + 1, 1, none⟩ = some (.slice none 0 0) := kr8.cell 1
            have f0 := kr8.frozen 0
            have f1 := kr8.frozen 1
            have KZ := Lib.hid (Blk.set_ (Blk.set_ kr8 0 (.slice Z1 PP.length y1)) 1 (.slice Z2 QQ.length y2))
            have hBZ := Lib.hid ((hB8.setCell (p := ⟨w.heap.size + 1 + 1, 0, none⟩) (by simp; omega) (.slice Z1 PP.length y1)).setCell (p := ⟨w.heap.size + 1 + 1, 1, none⟩) (by simp; omega) (.slice Z2 QQ.length y2))
            replace hb := Lib.hid hb
            replace g1 := Lib.hid g1
            replace g2 := Lib.hid g2
            clear kr8 hB8 b0 b1
            go_wp2_with fail
            have q0 := KZ.out.cell 0
            have q1 := KZ.out.cell 1
            have hw9 := hB.out.size
            refine bodyPost_ret (v := .tuple #[.agg #[.slice Z1 PP.length y1, .slice Z2 QQ.length y2], .int .i64 0]) (by simp [results, Tryz.results11, go_sem, q0, q1]) rfl ?_
            refine ⟨_, _, rfl, (g1.out.keep (fun b hb1 hb2 => ?_)).le hw9, (g2.out.keep (fun b hb1 hb2 => ?_)).le hw9, hBZ.out⟩ <;>
              exact (Below.heap_setCell _ _ _ _ (by simp at hb1 ⊢; omega)).trans (Below.heap_setCell _ _ _ _ (by simp at hb1 ⊢; omega))
end Go.Proofs.YtbddlbhanpjdnaaGreatDoor
