import Derived.Test.YtoaggmegmgdgbaaGreatLamR
import Derived.Test.YtoaggmegmgdgbaaGreatLamP
import Derived.Test.YtoaggmegmgdgbaaGreatRRise
import Derived.Test.YtoaggmegmgdgbaaGreatTail
import Derived.Test.YtoaggmegmgdgbaaGreatRLfA
namespace Go.Proofs.YtoaggmegmgdgbaaGreat
open Go.RowKit Go.Sort
theorem any_of_get {L : List Lf} {f : Lf → Bool} {i : Nat} (hi : i < L.length) (h : f L[i]! = true) : L.any f = true := List.any_eq_true.2 ⟨_, getBang_mem hi, h⟩
theorem any_not {L : List Lf} {f : Lf → Bool} (h : ∀ i, i < L.length → f L[i]! = false) : L.any f = false := List.any_eq_false.2 (fun m hm => by
  obtain ⟨i, hi, rfl⟩ := List.mem_iff_getElem.1 hm
  have := h i hi
  rw [getElem!_pos L i hi] at this
  rw [this]; exact Bool.false_ne_true)
open Go.RowKit Go.Sort
def repsG {α : Type} [DecidableEq α] (κ : Nat → α) : Nat → List Nat
  | 0 => []
  | k + 1 => if κ k ∈ (repsG κ k).map κ then repsG κ k else repsG κ k ++ [k]
def grpG {α β : Type} [DecidableEq α] (κ : Nat → α) (arc : Nat → β) (k : Nat) : List (List β) := (repsG κ k).map fun r => ((List.range k).filter fun j => decide (κ j = κ r)).map arc
section
variable {α α' β : Type} [DecidableEq α] [DecidableEq α'] {κ : Nat → α} {μ : Nat → α'} {arc : Nat → β}
theorem repsG_lt : ∀ k r, r ∈ repsG κ k → r < k
  | 0, r, h => absurd h (by simp [repsG])
  | k + 1, r, h => by
    rw [repsG] at h
    split at h
    · have := repsG_lt k r h; omega
    · rcases List.mem_append.1 h with h | h
      · have := repsG_lt k r h; omega
      · rw [List.mem_singleton.1 h]; omega
theorem repsG_mem : ∀ k j, j < k → κ j ∈ (repsG κ k).map κ
  | 0, j, h => absurd h (Nat.not_lt_zero _)
  | k + 1, j, h => by
    rw [repsG]
    rcases Nat.lt_or_ge j k with h1 | h1
    · have := repsG_mem k j h1
      split
      · exact this
      · rw [List.map_append]; exact List.mem_append_left _ this
    · obtain rfl : j = k := by omega
      split
      · assumption
      · simp
theorem repsG_nodup : ∀ k, ((repsG κ k).map κ).Nodup
  | 0 => by simp [repsG]
  | k + 1 => by
    rw [repsG]
    split
    · exact repsG_nodup k
    · rename_i h
      rw [List.map_append, List.nodup_append]
      refine ⟨repsG_nodup k, by simp, fun a ha b hb e => ?_⟩
      simp only [List.map_cons, List.map_nil, List.mem_singleton] at hb
      subst hb
      subst e
      exact h ha
theorem repsG_len : ∀ k, (repsG κ k).length ≤ k
  | 0 => by simp [repsG]
  | k + 1 => by
    have := repsG_len k
    rw [repsG]
    split
    · omega
    · rw [List.length_append]; simp; omega
theorem repsG_congr {n : Nat} (h : ∀ i j, i < n → j < n → (κ i = κ j ↔ μ i = μ j)) : ∀ k, k ≤ n → repsG κ k = repsG μ k
  | 0, _ => rfl
  | k + 1, hk => by
    have ih := repsG_congr h k (by omega)
    have e : κ k ∈ (repsG κ k).map κ ↔ μ k ∈ (repsG μ k).map μ := by
      rw [List.mem_map, List.mem_map, ih]
      constructor
      · rintro ⟨r, hr, e⟩
        exact ⟨r, hr, (h r k (by have := repsG_lt k r (κ := μ) hr; omega) (by omega)).1 e⟩
      · rintro ⟨r, hr, e⟩
        exact ⟨r, hr, (h r k (by have := repsG_lt k r (κ := μ) hr; omega) (by omega)).2 e⟩
    rw [repsG, repsG]
    by_cases hm : κ k ∈ (repsG κ k).map κ
    · rw [if_pos hm, if_pos (e.1 hm), ih]
    · rw [if_neg hm, if_neg (fun x => hm (e.2 x)), ih]
theorem grpG_congr {n : Nat} (h : ∀ i j, i < n → j < n → (κ i = κ j ↔ μ i = μ j)) : grpG κ arc n = grpG μ arc n := by
  unfold grpG
  rw [repsG_congr h n (Nat.le_refl _)]
  refine List.map_congr_left fun r hr => ?_
  have hrn := repsG_lt n r hr
  congr 1
  refine List.filter_congr fun j hj => ?_
  rw [List.mem_range] at hj
  exact decide_eq_decide.2 (h j r hj hrn)
theorem modify_end (x : β) : ∀ l : List (List β), (l ++ [[]]).modify l.length (· ++ [x]) = l ++ [[x]]
  | [] => rfl
  | a :: r => by
    show a :: (r ++ [[]]).modify r.length _ = _
    rw [modify_end x r]
    rfl
theorem grpG_len (k : Nat) : (grpG κ arc k).length = (repsG κ k).length := by simp [grpG]
theorem filter_none {k r : Nat} (h : κ k ∉ (repsG κ k).map κ) (e : κ r = κ k) : (List.range k).filter (fun j => decide (κ j = κ r)) = [] := by
  rw [List.filter_eq_nil_iff]
  intro j hj
  rw [List.mem_range] at hj
  rw [decide_eq_true_eq]
  intro e2
  have := repsG_mem (κ := κ) k j hj
  rw [e2, e] at this
  exact h this
theorem grpG_new {k : Nat} (h : κ k ∉ (repsG κ k).map κ) : grpG κ arc (k + 1) = grpG κ arc k ++ [[arc k]] := by
  unfold grpG
  rw [repsG, if_neg h, List.map_append]
  congr 1
  · refine List.map_congr_left fun r hr => ?_
    have hne : κ k ≠ κ r := fun e => h (by rw [e]; exact List.mem_map_of_mem hr)
    rw [List.range_succ, List.filter_append, List.filter_cons_of_neg (by simpa using hne), List.filter_nil, List.append_nil]
  · rw [List.map_cons, List.map_nil, List.range_succ, List.filter_append, filter_none h rfl]
    simp
theorem grpG_old {k i : Nat} (hi : i < (repsG κ k).length) (e : κ (repsG κ k)[i] = κ k) : grpG κ arc (k + 1) = (grpG κ arc k).modify i (· ++ [arc k]) := by
  have hm : κ k ∈ (repsG κ k).map κ := by rw [← e]; exact List.mem_map_of_mem (List.getElem_mem hi)
  have hnd := repsG_nodup (κ := κ) k
  unfold grpG
  rw [repsG, if_pos hm]
  have hs : ∀ r, ((List.range (k + 1)).filter fun j => decide (κ j = κ r)) = ((List.range k).filter fun j => decide (κ j = κ r)) ++ ([k].filter fun j => decide (κ j = κ r)) := fun r => by rw [List.range_succ, List.filter_append]
  refine List.ext_getElem (by simp) fun j h1 h2 => ?_
  have hj : j < (repsG κ k).length := by simpa using h1
  rw [List.getElem_modify, List.getElem_map, List.getElem_map, hs]
  by_cases hij : i = j
  · subst hij
    rw [if_pos rfl, List.filter_cons_of_pos (by simpa using e.symm), List.filter_nil, List.map_append]
    rfl
  · rw [if_neg hij, List.filter_cons_of_neg, List.filter_nil, List.append_nil]
    rw [decide_eq_true_eq]
    intro e2
    have h3 : ∀ {i j : Nat} (hi : i < ((repsG κ k).map κ).length) (hj : j < ((repsG κ k).map κ).length), i < j → ((repsG κ k).map κ)[i] ≠ ((repsG κ k).map κ)[j] := fun {i j} hi hj h => List.pairwise_iff_getElem.1 hnd i j hi hj h
    rcases Nat.lt_or_gt_of_ne hij with h4 | h4
    · exact h3 (by simpa using hi) (by simpa using hj) h4 (by rw [List.getElem_map, List.getElem_map]; exact e.trans e2)
    · exact h3 (by simpa using hj) (by simpa using hi) h4 (by rw [List.getElem_map, List.getElem_map]; exact (e.trans e2).symm)
end
open Go.RowKit Go.Sort
theorem addL_cases (L : List Lf) (x : Lf) : (x ∈ L ∧ addL L x = (L, 0)) ∨ (x ∉ L ∧ L.any (crossP x) = true ∧ addL L x = (L, 231)) ∨ (x ∉ L ∧ L.any (crossP x) = false ∧ 4096 ≤ L.length ∧ addL L x = (L, 4)) ∨ (x ∉ L ∧ L.any (crossP x) = false ∧ L.length < 4096 ∧ addL L x = (putS L x, 0)) := by
  unfold addL
  by_cases h1 : x ∈ L
  · rw [if_pos h1]; exact .inl ⟨h1, rfl⟩
  · rw [if_neg h1]
    cases h2 : L.any (crossP x)
    · rw [if_neg (by decide)]
      by_cases h3 : 4096 ≤ L.length
      · rw [if_pos h3]; exact .inr (.inr (.inl ⟨h1, rfl, h3, rfl⟩))
      · rw [if_neg h3]; exact .inr (.inr (.inr ⟨h1, rfl, by omega, by rw [putS, if_neg h1]⟩))
    · rw [if_pos rfl]; exact .inr (.inl ⟨h1, rfl, rfl⟩)
set_option maxRecDepth 100000 in
set_option maxHeartbeats 4000000 in
theorem rladd_any (B : Nat) (v : Value) (L : List Lf) (x : Lf) (w : World) (hv : RRow w B v L) (hBase : B ≤ w.heap.size) (hL : LOk L) (hx : Lfp x) (hlen : L.length ≤ 4096) :
    Calls Tryz.prog 44 #[v, .agg #[.int .u64 (x.1.1 : Int), .int .u64 (x.1.2 : Int), .int .u64 (x.2.1 : Int), .int .u64 (x.2.2 : Int)]] w (fun e w' => ∃ v', e = .returned (.tuple #[v', .int .i64 (addL L x).2]) ∧ RRow w' B v' (addL L x).1 ∧ Below w.heap.size w w') := by
  obtain ⟨A, c, rfl, hA⟩ := RRow.form hv
  have cH := Lib.hid (fun W (h : RRow W B (.slice A L.length c) L) => rlhas_any B _ L x W h hL.ang hx.1 hL.up (by omega))
  have cX : Hid (∀ i, i < L.length → ∀ W, Calls Tryz.prog 19 #[.agg #[.int .u64 (L[i]!.1.1 : Int), .int .u64 (L[i]!.1.2 : Int), .int .u64 (L[i]!.2.1 : Int), .int .u64 (L[i]!.2.2 : Int)], .agg #[.int .u64 (x.1.1 : Int), .int .u64 (x.1.2 : Int), .int .u64 (x.2.1 : Int), .int .u64 (x.2.2 : Int)]] W (RetVal (.bool (crossP L[i]! x)) W)) := Lib.hid (fun i hi W => rlCross_any _ x W (hL.ang _ (getBang_mem hi)) hx.1)
  have cP := Lib.hid (fun W (h : RRow W B (.slice A L.length c) L) (hb : B ≤ W.heap.size) => rlput_any B _ L x W h hb hL.ang hx.1 hL.up hlen)
  have hsy : Hid (∀ i, i < L.length → crossP L[i]! x = crossP x L[i]!) := Lib.hid (fun i hi => crossP_symm (hL.lf _ (getBang_mem hi)) hx)
  have hRow := Lib.hid hv
  obtain ⟨n, hn⟩ : ∃ n, n = L.length := ⟨_, rfl⟩
  have hcs := addL_cases L x
  obtain ⟨R, hR⟩ : ∃ R, R = addL L x := ⟨_, rfl⟩
  rw [← hR] at hcs
  rw [← hn] at cH cX cP hRow hA hlen hsy hcs ⊢
  rw [← hR]
  have hBB := Lib.hid hBase
  replace hn := Lib.hid hn
  clear hv hL hx hR hBase
  have hBW : Below w.heap.size w (w.alloc (.cells #[.int .u64 (x.1.1 : Int), .int .u64 (x.1.2 : Int), .int .u64 (x.2.1 : Int), .int .u64 (x.2.2 : Int)] 44)) := ((Below.refl _ w).alloc (Nat.le_refl _) _)
  have kk0 := (Blk.new w 44 #[.int .u64 (x.1.1 : Int), .int .u64 (x.1.2 : Int), .int .u64 (x.2.1 : Int), .int .u64 (x.2.2 : Int)])
  have K := Lib.hid (KeepT.one kk0)
  have hB := Lib.hid hBW
  clear hBW kk0
  go_enter Tryz.func44, Tryz.ntmps44
  go_upto_region 1 with fail
  generalize hW : (w.alloc (.cells #[.int .u64 (x.1.1 : Int), .int .u64 (x.1.2 : Int), .int .u64 (x.2.1 : Int), .int .u64 (x.2.2 : Int)] 44)) = w1 at hB K ⊢
  clear hW
  have xx0 : w1.cell? ⟨w.heap.size, 0, none⟩ = some (.int .u64 (x.1.1 : Int)) := (K.out.at_ 0 rfl).cell 0
  have xx1 : w1.cell? ⟨w.heap.size, 1, none⟩ = some (.int .u64 (x.1.2 : Int)) := (K.out.at_ 0 rfl).cell 1
  have xx2 : w1.cell? ⟨w.heap.size, 2, none⟩ = some (.int .u64 (x.2.1 : Int)) := (K.out.at_ 0 rfl).cell 2
  have xx3 : w1.cell? ⟨w.heap.size, 3, none⟩ = some (.int .u64 (x.2.2 : Int)) := (K.out.at_ 0 rfl).cell 3
  go_wp2_with fail
  refine (cH.out _ (RRow.below hRow.out hB.out)).mono ?_
  rintro en w2 ⟨rfl, hb⟩
  replace hB := Lib.hid (hB.out.trans (hb.mono hB.out.size))
  replace K := Lib.hid (K.out.below hb)
  clear hb cH xx0 xx1 xx2 xx3
  by_cases hin : x ∈ L
  case pos =>
    have hRe : Hid (R = (L, 0)) := Lib.hid (by
      rcases hcs with ⟨-, h⟩ | ⟨h, -⟩ | ⟨h, -⟩ | ⟨h, -⟩
      · exact h
      all_goals exact absurd hin h)
    rw [decide_eq_true hin]
    clear hin cP cX K hcs
    go_wp2_with fail
    go_ret2
    exact ⟨_, by rw [hRe.out]; rfl, by rw [hRe.out]; exact RRow.below hRow.out hB.out, hB.out⟩
  case neg =>
    replace hcs := hcs.resolve_left (fun h => hin h.1)
    rw [decide_eq_false hin]
    clear hin
    replace hcs := Lib.hid hcs
    go_wp2_with fail
    go_loopg [6] n (fun kx s6 wr => ∃ i : Nat, s6 = .int .i64 (i : Int) ∧ i ≤ n ∧ n - i ≤ kx ∧ Hid (∀ t, t < i → crossP x L[t]! = false) ∧ Hid (KeepT wr [(w.heap.size, 44, #[.int .u64 (x.1.1 : Int), .int .u64 (x.1.2 : Int), .int .u64 (x.2.1 : Int), .int .u64 (x.2.2 : Int)])]) ∧ Hid (Below w.heap.size w wr))
    case atStart => exact ⟨0, rfl, Nat.zero_le _, Nat.le_refl _, Lib.hid (fun t ht => absurd ht (Nat.not_lt_zero _)), K, hB⟩
    case round =>
      clear hB K
      obtain ⟨i, rfl, hin, hg, I, K, hB⟩ := hrel
      by_cases hlt : i < n
      case pos =>
        have hil : i < L.length := by rw [← hn.out]; exact hlt
        obtain ⟨g, rfl⟩ := hA (by omega)
        obtain ⟨m, hm⟩ : ∃ m, m = L[i]! := ⟨_, rfl⟩
        obtain ⟨b, hbm⟩ : ∃ b, b = crossP m x := ⟨_, rfl⟩
        have hC := RRow.cell (by have h := RRow.below hRow.out hB.out; rw [hn.out] at h; exact h) hil
        rw [← hm] at hC
        have cB : ∀ d os, Calls Tryz.prog 19 #[.agg #[.int .u64 (m.1.1 : Int), .int .u64 (m.1.2 : Int), .int .u64 (m.2.1 : Int), .int .u64 (m.2.2 : Int)], .agg #[.int .u64 (x.1.1 : Int), .int .u64 (x.1.2 : Int), .int .u64 (x.2.1 : Int), .int .u64 (x.2.2 : Int)]] (grow (redrawn wr d) os) fun e w'' => e = .returned (.bool b) ∧ ∃ p : Regrown, w'' = grow (redrawn wr p.d) p.os := fun d os => by
          have h := cX.out i hlt (grow (redrawn wr d) os)
          rw [← hm, ← hbm] at h
          exact Calls.regrown_of h
        have hbx : Hid (b = crossP x L[i]!) := Lib.hid (by rw [hbm, hm]; exact hsy.out i hlt)
        have hiz : (i : Int) < (n : Int) := by omega
        have m0 : ∀ d os, (grow (redrawn wr d) os).cell? ⟨g, i * 4, none⟩ = some (.int .u64 (m.1.1 : Int)) := cell_regrown (hC 0 _ rfl)
        have m1 : ∀ d os, (grow (redrawn wr d) os).cell? ⟨g, i * 4 + 1, none⟩ = some (.int .u64 (m.1.2 : Int)) := cell_regrown (hC 1 _ rfl)
        have m2 : ∀ d os, (grow (redrawn wr d) os).cell? ⟨g, i * 4 + 2, none⟩ = some (.int .u64 (m.2.1 : Int)) := cell_regrown (hC 2 _ rfl)
        have m3 : ∀ d os, (grow (redrawn wr d) os).cell? ⟨g, i * 4 + 3, none⟩ = some (.int .u64 (m.2.2 : Int)) := cell_regrown (hC 3 _ rfl)
        have x0 : ∀ d os, (grow (redrawn wr d) os).cell? ⟨w.heap.size, 0, none⟩ = some (.int .u64 (x.1.1 : Int)) := cell_regrown ((K.out.at_ 0 rfl).cell 0)
        have x1 : ∀ d os, (grow (redrawn wr d) os).cell? ⟨w.heap.size, 1, none⟩ = some (.int .u64 (x.1.2 : Int)) := cell_regrown ((K.out.at_ 0 rfl).cell 1)
        have x2 : ∀ d os, (grow (redrawn wr d) os).cell? ⟨w.heap.size, 2, none⟩ = some (.int .u64 (x.2.1 : Int)) := cell_regrown ((K.out.at_ 0 rfl).cell 2)
        have x3 : ∀ d os, (grow (redrawn wr d) os).cell? ⟨w.heap.size, 3, none⟩ = some (.int .u64 (x.2.2 : Int)) := cell_regrown ((K.out.at_ 0 rfl).cell 3)
        clear hC hil hm hbm
        go_upto_region 6 with fail
        refine wp_region_quiet_below (by kernel_rfl) (by kernel_rfl) ?_
        iterate 5 (quiet_step (fail))
        quiet_step (exact cB _ _)
        refine wpQuiet_nil ?_
        intro w3 hw'
        have hb : Below wr.heap.size wr w3 := by
          obtain ⟨p, rfl⟩ := hw'
          exact below_regrown wr p.d p.os
        replace K := Lib.hid (K.out.below hb)
        replace hB := Lib.hid (hB.out.trans (hb.mono hB.out.size))
        clear hw' hb cB m0 m1 m2 m3 x0 x1 x2 x3
        cases b
        case true =>
          have hRe : Hid (R = (L, 231)) := Lib.hid (by
            have ha := any_of_get (f := crossP x) (by rw [← hn.out]; exact hlt) hbx.out.symm
            rcases hcs.out with ⟨-, -, h⟩ | ⟨-, h, -⟩ | ⟨-, h, -⟩
            · exact h
            all_goals rw [ha] at h; cases h)
          clear cP cX K hcs
          go_wp2_with fail
          go_ret2
          exact ⟨_, by rw [hRe.out]; rfl, by rw [hRe.out]; exact RRow.below hRow.out hB.out, hB.out⟩
        case false =>
          go_wp2_with fail
          go_roundg (n - (i + 1))
          case measure => omega
          case rel =>
            exact ⟨i + 1, by go_num, by omega, Nat.le_refl _, Lib.hid (fun t ht => by
              rcases Nat.lt_or_ge t i with h | h
              · exact I.out t h
              · obtain rfl : t = i := by omega
                exact hbx.out.symm), K, hB⟩
      case neg =>
        obtain rfl : i = n := by omega
        have ha : L.any (crossP x) = false := any_not (fun t ht => I.out t (by rw [hn.out]; exact ht))
        by_cases h4 : 4096 ≤ i
        case pos =>
          have h4z : (4096 : Int) ≤ (i : Int) := by omega
          have hRe : Hid (R = (L, 4)) := Lib.hid (by
            rcases hcs.out with ⟨-, h, -⟩ | ⟨-, -, -, h⟩ | ⟨-, -, h, -⟩
            · rw [ha] at h; cases h
            · exact h
            · omega)
          clear cP cX K hcs ha I
          go_wp2_with fail
          go_ret2
          exact ⟨_, by rw [hRe.out]; rfl, by rw [hRe.out]; exact RRow.below hRow.out hB.out, hB.out⟩
        case neg =>
          have h4z : ¬ (4096 : Int) ≤ (i : Int) := by omega
          have hRe : Hid (R = (putS L x, 0)) := Lib.hid (by
            rcases hcs.out with ⟨-, h, -⟩ | ⟨-, -, h, -⟩ | ⟨-, -, -, h⟩
            · rw [ha] at h; cases h
            · omega
            · exact h)
          clear cX hcs ha I
          have xx0 : wr.cell? ⟨w.heap.size, 0, none⟩ = some (.int .u64 (x.1.1 : Int)) := (K.out.at_ 0 rfl).cell 0
          have xx1 : wr.cell? ⟨w.heap.size, 1, none⟩ = some (.int .u64 (x.1.2 : Int)) := (K.out.at_ 0 rfl).cell 1
          have xx2 : wr.cell? ⟨w.heap.size, 2, none⟩ = some (.int .u64 (x.2.1 : Int)) := (K.out.at_ 0 rfl).cell 2
          have xx3 : wr.cell? ⟨w.heap.size, 3, none⟩ = some (.int .u64 (x.2.2 : Int)) := (K.out.at_ 0 rfl).cell 3
          go_wp2_with fail
          refine (cP.out _ (RRow.below hRow.out hB.out) (Nat.le_trans hBB.out hB.out.size)).mono ?_
          rintro en w4 ⟨v4, rfl, hr4, hb⟩
          have hr5 := Lib.hid hr4
          replace hB := Lib.hid (hB.out.trans (hb.mono hB.out.size))
          clear hb hr4 cP K xx0 xx1 xx2 xx3
          go_wp2_with fail
          go_ret2
          exact ⟨_, by rw [hRe.out]; rfl, by rw [hRe.out]; exact hr5.out, hB.out⟩
open Go.RowKit Go.Sort
end Go.Proofs.YtoaggmegmgdgbaaGreat
