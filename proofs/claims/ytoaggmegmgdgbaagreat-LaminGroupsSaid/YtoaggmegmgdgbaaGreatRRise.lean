import Derived.Test.YtoaggmegmgdgbaaGreatRPutB
import Derived.Test.YtoaggmegmgdgbaaGreatOnceJ
import Derived.Test.YtoaggmegmgdgbaaGreatGapA
import Derived.Deep.CutBlock
import Derived.Deep.CutRange
namespace Go.Proofs.YtoaggmegmgdgbaaGreat
open Go.RowKit Go.Sort
def enc2 (p : PT) : List Value := [.int .u64 (p.1 : Int), .int .u64 (p.2 : Int)]
theorem enc2_len (p : PT) : (enc2 p).length = 2 := rfl
theorem info_ang2 : (Tryz.prog.info? 42).map (fun i => (i.zero, i.size, i.bytes)) = some (some (.agg #[.int .u64 0, .int .u64 0]), 2, 16) := by kernel_rfl
def QRow (w : World) (B : Nat) (v : Value) (L : List PT) : Prop := w.ownsRow B 42 2 v L.length (L.flatMap enc2)
theorem QRow.below {w w' : World} {B : Nat} {v : Value} {L : List PT} (h : QRow w B v L) (hb : Below w.heap.size w w') : QRow w' B v L := by
  obtain ⟨hl, hc⟩ := h
  refine ⟨hl, ?_⟩
  rcases hc with hc | ⟨g, cap, cur, hv, hbase, hg, rest⟩
  · exact .inl hc
  · have hlt : g < w.heap.size := by
      rcases Nat.lt_or_ge g w.heap.size with h | h
      · exact h
      · rw [Array.getElem?_eq_none h] at hg; cases hg
    exact .inr ⟨g, cap, cur, hv, hbase, (hb.block g hlt).trans hg, rest⟩
theorem QRow.form {w : World} {B : Nat} {v : Value} {L : List PT} (h : QRow w B v L) : ∃ A c, v = .slice A L.length c ∧ (0 < L.length → ∃ g, A = some ⟨g, 0, none⟩) := by
  rcases h.2 with ⟨rfl, h0⟩ | ⟨g, cap, cur, rfl, -⟩
  · exact ⟨none, 0, by rw [h0], fun h => by omega⟩
  · exact ⟨_, _, rfl, fun _ => ⟨g, rfl⟩⟩
theorem QRow.cell {w : World} {B g n c : Nat} {L : List PT} (h : QRow w B (.slice (some ⟨g, 0, none⟩) n c) L) {i : Nat} (hi : i < L.length) : ∀ (j : Nat) (u : Value), (enc2 L[i]!)[j]? = some u → w.cell? ⟨g, i * 2 + j, none⟩ = some u := fun j u hu => by
  have hj : j < 2 := by
    have := List.getElem?_eq_some_iff.1 hu
    obtain ⟨h1, -⟩ := this
    rwa [enc2_len] at h1
  have hg : (L.flatMap enc2)[i * 2 + j]? = some u := by
    rw [flatMap_get enc2 2 enc2_len L i j hi hj, ← getElem!_pos L i hi]
    exact hu
  have := World.ownsRow.cells h (g := g) rfl _ _ hg
  rwa [addr0_add] at this
theorem flat2_set (L : List PT) (j : Nat) (p : PT) (hj : j < L.length) : (L.set j p).flatMap enc2 = ((L.flatMap enc2).set (j * 2) (.int .u64 (p.1 : Int))).set (j * 2 + 1) (.int .u64 (p.2 : Int)) := by
  induction L generalizing j with
  | nil => simp at hj
  | cons a r ih =>
    rcases j with _ | j
    · rfl
    · have h := ih j (by simpa using hj)
      rw [List.set_cons_succ, List.flatMap_cons, h, List.flatMap_cons, List.set_append_right _ _ (by rw [enc2_len]; omega), List.set_append_right _ _ (by rw [enc2_len]; omega), enc2_len]
      congr 2
      · congr 1; omega
      · omega
theorem ipair (p q : PT) : (p = q ∧ (p.1 : Int) = (q.1 : Int) ∧ (p.2 : Int) = (q.2 : Int)) ∨ (p ≠ q ∧ (p.1 : Int) = (q.1 : Int) ∧ ¬ (p.2 : Int) = (q.2 : Int)) ∨ (p ≠ q ∧ ¬ (p.1 : Int) = (q.1 : Int)) := by
  obtain ⟨a, b⟩ := p
  obtain ⟨c, d⟩ := q
  simp only [Prod.mk.injEq, ne_eq]
  omega
theorem q_one (p : PT) : ∀ u ∈ enc2 p, u.oneCell' = true := fun u hu => by
  simp only [enc2, List.mem_cons, List.not_mem_nil, or_false] at hu
  rcases hu with rfl | rfl <;> rfl
theorem q_news {w : World} {vb : Nat} {p : PT} (h : Blk w vb 42 (enc2 p).toArray) : ∀ (j : Nat) (u : Value), (enc2 p)[j]? = some u → w.cell? ((⟨vb, 0, none⟩ : Addr).add j) = some u := fun j u hu => by
  rw [addr0_add, h.cell j]
  simpa using hu
def shR (O : List PT) (x : PT) (m j : Nat) : List PT := if j = m then O ++ [x] else O.take (j + 1) ++ O.drop j
theorem shR_len {O : List PT} {x : PT} {m j : Nat} (hm : m = O.length) (hj : j ≤ m) : (shR O x m j).length = m + 1 := by
  unfold shR
  split
  · simp [hm]
  · rw [List.length_append, List.length_take, List.length_drop]; omega
theorem shR_get {O : List PT} {x : PT} {m j t : Nat} (hm : m = O.length) (hj : j < m) : (shR O x m j)[t]? = if t ≤ j then O[t]? else O[t - 1]? := by
  unfold shR
  rw [if_neg (by omega)]
  have hl : (O.take (j + 1)).length = j + 1 := by rw [List.length_take]; omega
  by_cases h : t ≤ j
  · rw [if_pos h, List.getElem?_append_left (by omega), List.getElem?_take_of_lt (by omega)]
  · rw [if_neg h, List.getElem?_append_right (by omega), hl, List.getElem?_drop]
    congr 1
    omega
theorem shR_step {O : List PT} {x : PT} {m j : Nat} (hm : m = O.length) (hj : j + 1 ≤ m) : (shR O x m (j + 1)).set (j + 1) (shR O x m (j + 1))[j]! = shR O x m j := by
  have hl := shR_len (x := x) hm hj
  apply List.ext_getElem?
  intro t
  have hp : (shR O x m (j + 1))[j]? = O[j]? := by
    by_cases e : j + 1 = m
    · rw [e, shR, if_pos rfl, List.getElem?_append_left (by omega)]
    · rw [shR_get hm (by omega), if_pos (by omega)]
  rw [getElem!_pos _ j (by omega)]
  rw [List.getElem?_eq_getElem (show j < _ by omega)] at hp
  have hR : (shR O x m j)[t]? = if t ≤ j then O[t]? else O[t - 1]? := shR_get hm (by omega)
  have hlt : j + 1 < (shR O x m (j + 1)).length := by omega
  rw [hR, List.getElem?_set]
  by_cases h1 : j + 1 = t
  · rw [if_pos h1, if_pos hlt, if_neg (by omega), ← h1, Nat.add_sub_cancel]
    exact hp
  · rw [if_neg h1]
    by_cases e : j + 1 = m
    · have hL : (shR O x m (j + 1))[t]? = (O ++ [x])[t]? := by rw [shR, if_pos e]
      rw [hL]
      by_cases h2 : t ≤ j
      · rw [if_pos h2, List.getElem?_append_left (by omega)]
      · rw [if_neg h2, List.getElem?_eq_none (by simp; omega), List.getElem?_eq_none (by omega)]
    · have hL : (shR O x m (j + 1))[t]? = if t ≤ j + 1 then O[t]? else O[t - 1]? := shR_get hm (by omega)
      rw [hL]
      by_cases h2 : t ≤ j
      · rw [if_pos h2, if_pos (by omega)]
      · rw [if_neg h2, if_neg (by omega)]
theorem QRow.frozen {w : World} {B g n c : Nat} {L : List PT} (h : QRow w B (.slice (some ⟨g, 0, none⟩) n c) L) (j : Nat) : w.frozen? ⟨g, j, none⟩ = false := by
  have hn : n = L.length := by
    rcases h.2 with ⟨e, -⟩ | ⟨g', cap, cur, e, -⟩
    · cases e
    · injection e
  subst hn
  exact World.ownsRow.frozenAt h j
theorem shR_last {O : List PT} {x : PT} {m j : Nat} (hm : m = O.length) (hj : j ≤ m) : (shR O x m j).set j x = O.take j ++ x :: O.drop j := by
  by_cases e : j = m
  · subst e
    rw [shR, if_pos rfl, List.set_append_right _ _ (by omega), ← hm, Nat.sub_self, List.take_of_length_le (by omega), List.drop_eq_nil_of_le (by omega)]
    rfl
  · rw [shR, if_neg e, List.take_add_one, List.getElem?_eq_getElem (by omega), Option.toList_some, List.append_assoc, List.set_append_right _ _ (by rw [List.length_take]; omega), List.length_take, Nat.min_eq_left (by omega), Nat.sub_self]
    rfl
theorem QRow.put {w : World} {B g n c : Nat} {L : List PT} (h : QRow w B (.slice (some ⟨g, 0, none⟩) n c) L) {j : Nat} (hj : j < L.length) (p : PT) :
    QRow ((w.setCell ⟨g, j * 2, none⟩ (.int .u64 (p.1 : Int))).setCell ⟨g, j * 2 + 1, none⟩ (.int .u64 (p.2 : Int))) B (.slice (some ⟨g, 0, none⟩) n c) (L.set j p) := by
  have hn : n = L.length := by
    rcases h.2 with ⟨e, -⟩ | ⟨g', cap, cur, e, -⟩
    · cases e
    · injection e
  unfold QRow at h ⊢
  rw [← hn] at h
  rw [List.length_set, ← hn, flat2_set L j p hj]
  exact (World.ownsRow.stored (World.ownsRow.stored h _ _).1 _ _).1
set_option maxRecDepth 100000 in
set_option maxHeartbeats 8000000 in
theorem rrising_any (B : Nat) (v : Value) (L : List PT) (w : World) (hv : QRow w B v L) (hM : ∀ p, p ∈ L → Ang p) (hlen : L.length ≤ 1048576) :
    Calls Tryz.prog 62 #[v] w (fun e w' => ∃ v', e = .returned v' ∧ QRow w' w.heap.size v' (riseL L) ∧ Below w.heap.size w w') := by
  obtain ⟨i0, hi, hz0, hz1, hz2⟩ := info_parts info_ang2
  obtain ⟨A, c, rfl, hA⟩ := QRow.form hv
  have cC := Lib.hid (fun (p q : PT) W (hp : Ang p) (hq : Ang q) => rcmpP p q W hp hq)
  have hRow := Lib.hid hv
  have hOld := Lib.hid (fun k hk => (World.ownsRow.lt hv k hk).2)
  obtain ⟨n, hn⟩ : ∃ n, n = L.length := ⟨_, rfl⟩
  rw [← hn] at hRow hA hlen hOld ⊢
  replace hn := Lib.hid hn
  have hMa := Lib.hid hM
  have hB := Lib.hid (Below.refl w.heap.size w)
  clear hv hM
  go_enter Tryz.func62, Tryz.ntmps62
  go_wp2_with fail
  go_loopg [4, 3] n (fun kx s4 s3 wr => ∃ (i : Nat) (v3 : Value), s4 = .int .i64 (i : Int) ∧ v3 = s3 ∧ i ≤ n ∧ n - i ≤ kx ∧ Hid (QRow wr w.heap.size v3 (riseL (L.take i))) ∧ Hid (Below w.heap.size w wr))
  case atStart => exact ⟨0, _, rfl, rfl, Nat.zero_le _, Nat.le_refl _, Lib.hid (World.ownsRow_nil _ _ _ _), hB⟩
  case round =>
    clear hB
    obtain ⟨i, v3, rfl, rfl, hin, hg, hO, hB⟩ := hrel
    by_cases hlt : i < n
    case neg =>
      obtain rfl : i = n := by omega
      have hfin : Hid (QRow wr w.heap.size v3 (riseL L)) := Lib.hid (by
        have h := hO.out
        rwa [List.take_of_length_le (by rw [hn.out]; exact Nat.le_refl _)] at h)
      clear hO cC
      go_wp2_with fail
      go_ret
      exact ⟨_, rfl, hfin.out, hB.out⟩
    case pos =>
      obtain ⟨g, rfl⟩ := hA (by omega)
      have hil : i < L.length := by rw [← hn.out]; exact hlt
      obtain ⟨x, hx⟩ : ∃ x, x = L[i]! := ⟨_, rfl⟩
      have hxA : Ang x := hMa.out x (by rw [hx, getElem!_pos L i hil]; exact List.getElem_mem hil)
      have hnext : Hid (riseL (L.take (i + 1)) = insR (riseL (L.take i)) x) := Lib.hid (by
        rw [hx, List.take_add_one, List.getElem?_eq_getElem hil, getElem!_pos L i hil, Option.toList_some]
        unfold riseL
        rw [List.foldl_append]
        rfl)
      have hOl := riseL_len (L.take i)
      have hOa : ∀ p, p ∈ riseL (L.take i) → Ang p := fun p hp => hMa.out p (List.mem_of_mem_take (riseL_mem.1 hp))
      obtain ⟨O, hOe⟩ : ∃ O, O = riseL (L.take i) := ⟨_, rfl⟩
      rw [← hOe] at hO hnext hOl hOa
      rw [List.length_take] at hOl
      have hC := QRow.cell (by have h := QRow.below hRow.out hB.out; exact h) hil
      rw [← hx] at hC
      obtain ⟨m, hm⟩ : ∃ m, m = O.length := ⟨_, rfl⟩
      rw [← hm] at hOl
      have hmi : m ≤ i := by omega
      obtain ⟨A3, c3, rfl, hA3⟩ := QRow.form hO.out
      rw [← hm] at hO hA3 ⊢
      replace hm := Lib.hid hm
      replace hx := Lib.hid hx
      replace hOa := Lib.hid hOa
      clear hOe hOl
      have hiz : (i : Int) < (n : Int) := by omega
      go_upto_block 2 with fail
      obtain ⟨Kp, hKp⟩ : ∃ k, k = posR O x m := ⟨_, rfl⟩
      have hKm : Kp ≤ m := by rw [hKp]; exact posR_le O x m
      have hxc := Lib.hid (fun j (u : Value) (h : (enc2 x)[j]? = some u) (W : World) (hb : Below w.heap.size w W) => by
        have h1 := QRow.cell (by have h := QRow.below hRow.out hb; exact h) hil
        rw [← hx.out] at h1
        exact h1 j u h)
      replace hKp := Lib.hid hKp
      clear hC
      go_cut [5] from 15 to 31 (fun s5 wx => s5 = .int .i64 (Kp : Int) ∧ Hid (QRow wx w.heap.size (.slice A3 m c3) O) ∧ Hid (Below w.heap.size w wx))
      case first =>
        go_wp2_with fail
        go_loopg [5] (m + 1) (fun kx s5 wx => ∃ k : Nat, s5 = .int .i64 (k : Int) ∧ k ≤ m ∧ k ≤ kx ∧ Hid (posR O x k = Kp) ∧ Hid (QRow wx w.heap.size (.slice A3 m c3) O) ∧ Hid (Below w.heap.size w wx))
        case atStart => exact ⟨m, rfl, Nat.le_refl _, Nat.le_succ _, Lib.hid hKp.out.symm, hO, hB⟩
        case round =>
          clear hO hB
          obtain ⟨k, rfl, hkm, hgk2, hpk, hO, hB⟩ := hrel
          go_upto_region 6 with fail
          rcases k with _ | k
          case zero =>
            have hK0 : Hid (Kp = 0) := Lib.hid hpk.out.symm
            refine wp_region_quiet_below (by kernel_rfl) (by kernel_rfl) ?_
            iterate 3 (quiet_step (fail))
            iterate 11 (generalize haa : Act.mk _ _ = aa; refine wpQuiet_skip ?_ ?_; (· subst haa; simp [Region.wanted, yielded]); subst haa; intro Kq hKq; go_simp; refine hKq _ ?_; clear hKq Kq)
            quiet_step (fail)
            refine wpQuiet_nil ?_
            intro w3 hw'
            have hb : Below wr.heap.size wr w3 := by
              obtain ⟨p, rfl⟩ := hw'
              exact below_regrown wr p.d p.os
            replace hO := Lib.hid (QRow.below hO.out hb)
            replace hB := Lib.hid (hB.out.trans (hb.mono hB.out.size))
            clear hw' hb
            go_wp2_with fail
            go_meet
            case rel => exact ⟨by rw [hK0.out]; rfl, hO, hB⟩
          case succ =>
            obtain ⟨g3, rfl⟩ := hA3 (by omega)
            have hkO : k < O.length := by rw [← hm.out]; omega
            obtain ⟨p, hp⟩ : ∃ p, p = O[k]! := ⟨_, rfl⟩
            have hpA : Ang p := hOa.out p (by rw [hp, getElem!_pos O k hkO]; exact List.getElem_mem hkO)
            have hCp := QRow.cell (by have h := hO.out; exact h) hkO
            rw [← hp] at hCp
            obtain ⟨cv, hcv⟩ : ∃ c, c = cmpP p x := ⟨_, rfl⟩
            have cM : ∀ d os, Calls Tryz.prog 64 #[.agg #[.int .u64 (p.1 : Int), .int .u64 (p.2 : Int)], .agg #[.int .u64 (x.1 : Int), .int .u64 (x.2 : Int)]] (grow (redrawn wr d) os) fun e w'' => e = .returned (.int .i64 cv) ∧ ∃ p : Regrown, w'' = grow (redrawn wr p.d) p.os := fun d os => by
              rw [hcv]
              exact Calls.regrown_of (cC.out p x _ hpA hxA)
            have hgd : O.getD k (0, 0) = p := by rw [hp, getElem!_pos O k hkO, List.getD_eq_getElem?_getD, List.getElem?_eq_getElem hkO]; rfl
            have hpk2 : (if 0 < cv then posR O x k else k + 1) = Kp := by
              have h := hpk.out
              rw [posR, hgd, ← hcv] at h
              exact h
            have hbd := cmpP_bd p x
            rw [← hcv] at hbd
            have p0 : ∀ d os, (grow (redrawn wr d) os).cell? ⟨g3, k * 2, none⟩ = some (.int .u64 (p.1 : Int)) := cell_regrown (hCp 0 _ rfl)
            have p1 : ∀ d os, (grow (redrawn wr d) os).cell? ⟨g3, k * 2 + 1, none⟩ = some (.int .u64 (p.2 : Int)) := cell_regrown (hCp 1 _ rfl)
            have x0 : ∀ d os, (grow (redrawn wr d) os).cell? ⟨g, i * 2, none⟩ = some (.int .u64 (x.1 : Int)) := cell_regrown (hxc.out 0 _ rfl wr hB.out)
            have x1 : ∀ d os, (grow (redrawn wr d) os).cell? ⟨g, i * 2 + 1, none⟩ = some (.int .u64 (x.2 : Int)) := cell_regrown (hxc.out 1 _ rfl wr hB.out)
            have hk1 : (0 : Int) < (k : Int) + 1 := by omega
            have hk2 : IntKind.i64.wrap ((k : Int) + 1 - 1) = (k : Int) := by rw [IntKind.wrap_i64]; omega
            have hk3 : IntKind.i64.wrap (k : Int) = (k : Int) := by rw [IntKind.wrap_i64]; omega
            have hk4 : (k : Int) < (m : Int) := by omega
            have hk5 : (0 : Int) ≤ (k : Int) := by omega
            have hsc : (((k + 1 : Nat) : Int)) = (k : Int) + 1 := by omega
            rw [hsc]
            replace hp := Lib.hid hp
            replace hcv := Lib.hid hcv
            replace hgd := Lib.hid hgd
            replace hpk2 := Lib.hid hpk2
            clear hCp hkO hsc
            refine wp_region_quiet_below (by kernel_rfl) (by kernel_rfl) ?_
            iterate 12 (quiet_step (fail))
            quiet_step (exact cM _ _)
            rcases hbd with rfl | rfl | rfl
            all_goals
              iterate 2 (quiet_step (fail))
              refine wpQuiet_nil ?_
              intro w3 hw'
              have hb : Below wr.heap.size wr w3 := by
                obtain ⟨p, rfl⟩ := hw'
                exact below_regrown wr p.d p.os
              replace hO := Lib.hid (QRow.below hO.out hb)
              replace hB := Lib.hid (hB.out.trans (hb.mono hB.out.size))
              clear hw' hb cM p0 p1 x0 x1
              go_wp2_with fail
            · have hke : Hid (Kp = k + 1) := Lib.hid (by have h := hpk2.out; rw [if_neg (by decide)] at h; exact h.symm)
              go_meet
              case rel => exact ⟨by rw [hke.out]; simp, hO, hB⟩
            · have hke : Hid (Kp = k + 1) := Lib.hid (by have h := hpk2.out; rw [if_neg (by decide)] at h; exact h.symm)
              go_meet
              case rel => exact ⟨by rw [hke.out]; simp, hO, hB⟩
            · have hke : Hid (posR O x k = Kp) := Lib.hid (by have h := hpk2.out; rw [if_pos (by decide)] at h; exact h)
              go_roundg k
              case measure => omega
              case rel => exact ⟨k, by simp, by omega, Nat.le_refl _, hke, hO, hB⟩
      case rest =>
        obtain ⟨rfl, hO, hB⟩ := hcut
        go_upto_region 8 with fail
        skip
        obtain ⟨bb, hbb⟩ : ∃ b, b = decide (0 < Kp ∧ O.getD (Kp - 1) (0, 0) = x) := ⟨_, rfl⟩
        replace hbb := Lib.hid hbb
        go_cut [45] from 32 to 44 (fun s45 wx => s45 = .bool bb ∧ Hid (QRow wx w.heap.size (.slice A3 m c3) O) ∧ Hid (Below w.heap.size w wx))
        case first =>
          rcases Kp with _ | k
          case zero =>
            have hK0 : Hid (bb = false) := Lib.hid (by rw [hbb.out]; exact decide_eq_false (fun h => Nat.lt_irrefl _ h.1))
            refine wp_region_quiet_below (by kernel_rfl) (by kernel_rfl) ?_
            iterate 3 (quiet_step (fail))
            iterate 10 (generalize haa : Act.mk _ _ = aa; refine wpQuiet_skip ?_ ?_; (· subst haa; simp [Region.wanted, yielded]); subst haa; intro Kq hKq; go_simp; refine hKq _ ?_; clear hKq Kq)
            quiet_step (fail)
            refine wpQuiet_nil ?_
            intro w3 hw'
            have hb : Below wc.heap.size wc w3 := by
              obtain ⟨p, rfl⟩ := hw'
              exact below_regrown wc p.d p.os
            replace hO := Lib.hid (QRow.below hO.out hb)
            replace hB := Lib.hid (hB.out.trans (hb.mono hB.out.size))
            clear hw' hb
            go_wp2_with fail
            go_meet
            case rel => exact ⟨by rw [hK0.out], hO, hB⟩
          case succ =>
            obtain ⟨g3, rfl⟩ := hA3 (by omega)
            have hkO : k < O.length := by rw [← hm.out]; omega
            obtain ⟨p, hp⟩ : ∃ p, p = O[k]! := ⟨_, rfl⟩
            have hCp := QRow.cell (by have h := hO.out; exact h) hkO
            rw [← hp] at hCp
            have hgd : O.getD k (0, 0) = p := by rw [hp, getElem!_pos O k hkO, List.getD_eq_getElem?_getD, List.getElem?_eq_getElem hkO]; rfl
            have hbe : Hid (bb = decide (p = x)) := Lib.hid (by
              rw [hbb.out, Nat.add_sub_cancel, hgd]
              exact decide_eq_decide.2 ⟨fun h => h.2, fun h => ⟨Nat.succ_pos _, h⟩⟩)
            have hcs := ipair p x
            have p0 : ∀ d os, (grow (redrawn wc d) os).cell? ⟨g3, k * 2, none⟩ = some (.int .u64 (p.1 : Int)) := cell_regrown (hCp 0 _ rfl)
            have p1 : ∀ d os, (grow (redrawn wc d) os).cell? ⟨g3, k * 2 + 1, none⟩ = some (.int .u64 (p.2 : Int)) := cell_regrown (hCp 1 _ rfl)
            have x0 : ∀ d os, (grow (redrawn wc d) os).cell? ⟨g, i * 2, none⟩ = some (.int .u64 (x.1 : Int)) := cell_regrown (hxc.out 0 _ rfl wc hB.out)
            have x1 : ∀ d os, (grow (redrawn wc d) os).cell? ⟨g, i * 2 + 1, none⟩ = some (.int .u64 (x.2 : Int)) := cell_regrown (hxc.out 1 _ rfl wc hB.out)
            have hk1 : (0 : Int) < (k : Int) + 1 := by omega
            have hk2 : IntKind.i64.wrap ((k : Int) + 1 - 1) = (k : Int) := by rw [IntKind.wrap_i64]; omega
            have hk3 : IntKind.i64.wrap (k : Int) = (k : Int) := by rw [IntKind.wrap_i64]; omega
            have hk4 : (k : Int) < (m : Int) := by omega
            have hk5 : (0 : Int) ≤ (k : Int) := by omega
            have hsc : (((k + 1 : Nat) : Int)) = (k : Int) + 1 := by omega
            rw [hsc]
            replace hp := Lib.hid hp
            replace hgd := Lib.hid hgd
            clear hCp hkO hsc
            rcases hcs with ⟨e0, e1, e2⟩ | ⟨e0, e1, e2⟩ | ⟨e0, e1⟩
            all_goals
              first | replace hbe := Lib.hid (hbe.out.trans (decide_eq_true e0)) | replace hbe := Lib.hid (hbe.out.trans (decide_eq_false e0))
              clear e0
              refine wp_region_quiet_below (by kernel_rfl) (by kernel_rfl) ?_
              iterate 14 (quiet_step (fail))
              refine wpQuiet_nil ?_
              intro w3 hw'
              have hb : Below wc.heap.size wc w3 := by
                obtain ⟨p, rfl⟩ := hw'
                exact below_regrown wc p.d p.os
              replace hO := Lib.hid (QRow.below hO.out hb)
              replace hB := Lib.hid (hB.out.trans (hb.mono hB.out.size))
              clear hw' hb p0 p1 x0 x1
              go_wp2_with fail
              go_meet
              case rel => exact ⟨by rw [hbe.out], hO, hB⟩
        case rest =>
          obtain ⟨rfl, hO, hB⟩ := hcut
          cases bb
          case true =>
            have hsame : Hid (riseL (L.take (i + 1)) = O) := Lib.hid (by
              have h := of_decide_eq_true hbb.out.symm
              rw [hnext.out, insR, ← hm.out, ← hKp.out, if_pos h])
            clear hnext hxc
            go_wp2_with fail
            go_roundg (n - (i + 1))
            case measure => omega
            case rel => exact ⟨i + 1, _, by simp, rfl, by omega, Nat.le_refl _, by rw [hsame.out]; exact hO, hB⟩
          case false =>
            have hins : Hid (riseL (L.take (i + 1)) = O.take Kp ++ x :: O.drop Kp) := Lib.hid (by
              have h := of_decide_eq_false hbb.out.symm
              rw [hnext.out, insR, ← hm.out, ← hKp.out, if_neg h])
            clear hnext
            have x0 : wc.cell? ⟨g, i * 2, none⟩ = some (.int .u64 (x.1 : Int)) := hxc.out 0 _ rfl wc hB.out
            have x1 : wc.cell? ⟨g, i * 2 + 1, none⟩ = some (.int .u64 (x.2 : Int)) := hxc.out 1 _ rfl wc hB.out
            go_wp2_with (at_builtin; refine wpList_append_own _ rfl _ _ 31 rfl w.heap.size 42 i0 (.agg #[.int .u64 0, .int .u64 0]) 2 16 Tryz.underlying31 hi hz0 hz1 hz2 rfl (by decide) (.slice A3 m c3) m (O.flatMap enc2) rfl ?g0 ⟨wc.heap.size, 0, none⟩ 1 1 (enc2 x) ?g1 ?g2 ?g3 ?g4 ?g5 ?g6 ?g7 ?gK)
            case g0 => exact World.ownsRow.alloc (by have h := hO.out; unfold QRow at h; rw [← hm.out] at h; exact h) _
            case g1 => rfl
            case g2 => rfl
            case g3 => exact q_news (Blk.new wc 42 (enc2 x).toArray)
            case g4 => exact q_one x
            case g5 => unfold maxLen; omega
            case g6 => omega
            case g7 => have := hB.out.size; simp; omega
            case gK =>
              intro v4 w4 hown4 hgrow4 _
              have hv4 := fun k (hk : (Value.slice A3 m c3).ownBlock = some k) => (World.ownsRow.lt hO.out k hk).1
              have hB4 : Below w.heap.size w w4 := (hB.out.alloc hB.out.size _).grown hgrow4 (by have := hB.out.size; simp; omega) hv4
              have hQ4 : QRow w4 w.heap.size v4 (O ++ [x]) := by
                unfold QRow
                rw [List.length_append, ← hm.out, List.flatMap_append, List.flatMap_singleton]
                exact hown4
              obtain ⟨A4, c4, rfl, hA4⟩ := QRow.form hQ4
              obtain ⟨g4, rfl⟩ := hA4 (by simp)
              rw [List.length_append, List.length_singleton, ← hm.out] at hQ4 ⊢
              have hg4 : w.heap.size ≤ g4 := (World.ownsRow.lt hQ4 g4 rfl).1
              replace hQ4 := Lib.hid hQ4
              replace hB4 := Lib.hid hB4
              clear hown4 hgrow4 hv4 hA4 x0 x1 hbb
              have hwm : IntKind.i64.wrap ((m : Int) + 1 - 1) = (m : Int) := by rw [IntKind.wrap_i64]; omega
              have hwm2 : IntKind.i64.wrap (m : Int) = (m : Int) := by rw [IntKind.wrap_i64]; omega
              go_upto_block 4 with fail
              go_cut [6] from 56 to 68 (fun s6 wx => ∃ v6 : Value, v6 = s6 ∧ Hid (QRow wx w.heap.size (.slice (some ⟨g4, 0, none⟩) (m + 1) c4) (shR O x m Kp)) ∧ Hid (Below w.heap.size w wx))
              case first =>
                clear hwm hwm2
                go_wp2_with fail
                go_loopg [6] m (fun kx s6 wx => ∃ j : Nat, s6 = .int .i64 (j : Int) ∧ Kp ≤ j ∧ j ≤ m ∧ j - Kp ≤ kx ∧ Hid (QRow wx w.heap.size (.slice (some ⟨g4, 0, none⟩) (m + 1) c4) (shR O x m j)) ∧ Hid (Below w.heap.size w wx))
                case atStart => exact ⟨m, rfl, hKm, Nat.le_refl _, by omega, Lib.hid (by rw [shR, if_pos rfl]; exact hQ4.out), hB4⟩
                case round =>
                  clear hQ4 hB4
                  obtain ⟨j, rfl, hj1, hj2, hgj, hQ4, hB4⟩ := hrel
                  by_cases hjk : Kp < j
                  case neg =>
                    obtain rfl : j = Kp := by omega
                    have hz : ¬ (j : Int) < (j : Int) := by omega
                    go_wp2_with fail
                    go_meet
                    case rel => exact ⟨_, rfl, hQ4, hB4⟩
                  case pos =>
                    obtain ⟨j, rfl⟩ : ∃ t, j = t + 1 := ⟨j - 1, by omega⟩
                    have hSl : (shR O x m (j + 1)).length = m + 1 := shR_len hm.out (by omega)
                    obtain ⟨p, hp⟩ : ∃ p, p = (shR O x m (j + 1))[j]! := ⟨_, rfl⟩
                    obtain ⟨q, hq⟩ : ∃ q, q = (shR O x m (j + 1))[j + 1]! := ⟨_, rfl⟩
                    have hCp := QRow.cell hQ4.out (i := j) (by omega)
                    have hCq := QRow.cell hQ4.out (i := j + 1) (by omega)
                    rw [← hp] at hCp
                    rw [← hq] at hCq
                    have p0 : wr.cell? ⟨g4, j * 2, none⟩ = some (.int .u64 (p.1 : Int)) := hCp 0 _ rfl
                    have p1 : wr.cell? ⟨g4, j * 2 + 1, none⟩ = some (.int .u64 (p.2 : Int)) := hCp 1 _ rfl
                    have q0 : wr.cell? ⟨g4, (j + 1) * 2, none⟩ = some (.int .u64 (q.1 : Int)) := hCq 0 _ rfl
                    have f0 : wr.frozen? ⟨g4, (j + 1) * 2, none⟩ = false := QRow.frozen hQ4.out _
                    have q1 : wr.cell? ⟨g4, (j + 1) * 2 + 1, none⟩ = some (.int .u64 (q.2 : Int)) := hCq 1 _ rfl
                    have f1 : wr.frozen? ⟨g4, (j + 1) * 2 + 1, none⟩ = false := QRow.frozen hQ4.out _
                    have hstep : Hid ((shR O x m (j + 1)).set (j + 1) p = shR O x m j) := Lib.hid (by rw [hp]; exact shR_step hm.out (by omega))
                    have hQ5 := Lib.hid (QRow.put hQ4.out (j := j + 1) (by omega) p)
                    rw [hstep.out] at hQ5
                    have hB5 := Lib.hid ((hB4.out.setCell (p := ⟨g4, (j + 1) * 2, none⟩) hg4 (.int .u64 (p.1 : Int))).setCell (p := ⟨g4, (j + 1) * 2 + 1, none⟩) hg4 (.int .u64 (p.2 : Int)))
                    have hz1 : (Kp : Int) < (j : Int) + 1 := by omega
                    have hz2 : IntKind.i64.wrap ((j : Int) + 1 - 1) = (j : Int) := by rw [IntKind.wrap_i64]; omega
                    have hz3 : IntKind.i64.wrap (j : Int) = (j : Int) := by rw [IntKind.wrap_i64]; omega
                    have hz4 : (j : Int) < (m : Int) + 1 := by omega
                    have hz5 : (j : Int) + 1 < (m : Int) + 1 := by omega
                    have hz6 : (0 : Int) ≤ (j : Int) + 1 := by omega
                    have hz7 : ((j : Int) + 1).toNat = j + 1 := by omega
                    have hsc : (((j + 1 : Nat) : Int)) = (j : Int) + 1 := by omega
                    rw [hsc]
                    replace hp := Lib.hid hp
                    replace hq := Lib.hid hq
                    replace hSl := Lib.hid hSl
                    clear hCp hCq hsc hQ4 hB4
                    go_wp2_with fail
                    go_roundg (j - Kp)
                    case measure => omega
                    case rel => exact ⟨j, by simp, by omega, by omega, Nat.le_refl _, hQ5, hB5⟩
              case rest =>
                obtain ⟨v6, rfl, hQ4, hB4⟩ := hcut
                clear hwm hwm2
                have hSl : (shR O x m Kp).length = m + 1 := shR_len hm.out hKm
                obtain ⟨q, hq⟩ : ∃ q, q = (shR O x m Kp)[Kp]! := ⟨_, rfl⟩
                have hCq := QRow.cell hQ4.out (i := Kp) (by omega)
                rw [← hq] at hCq
                have q0 : wc.cell? ⟨g4, Kp * 2, none⟩ = some (.int .u64 (q.1 : Int)) := hCq 0 _ rfl
                have f0 : wc.frozen? ⟨g4, Kp * 2, none⟩ = false := QRow.frozen hQ4.out _
                have q1 : wc.cell? ⟨g4, Kp * 2 + 1, none⟩ = some (.int .u64 (q.2 : Int)) := hCq 1 _ rfl
                have f1 : wc.frozen? ⟨g4, Kp * 2 + 1, none⟩ = false := QRow.frozen hQ4.out _
                have x0 : wc.cell? ⟨g, i * 2, none⟩ = some (.int .u64 (x.1 : Int)) := hxc.out 0 _ rfl wc hB4.out
                have x1 : wc.cell? ⟨g, i * 2 + 1, none⟩ = some (.int .u64 (x.2 : Int)) := hxc.out 1 _ rfl wc hB4.out
                have hQ5 := Lib.hid (QRow.put hQ4.out (j := Kp) (by omega) x)
                rw [shR_last hm.out hKm, ← hins.out] at hQ5
                have hB5 := Lib.hid ((hB4.out.setCell (p := ⟨g4, Kp * 2, none⟩) hg4 (.int .u64 (x.1 : Int))).setCell (p := ⟨g4, Kp * 2 + 1, none⟩) hg4 (.int .u64 (x.2 : Int)))
                have hz1 : (Kp : Int) < (m : Int) + 1 := by omega
                replace hq := Lib.hid hq
                clear hCq hQ4 hB4 hSl
                go_wp2_with fail
                go_roundg (n - (i + 1))
                case measure => omega
                case rel => exact ⟨i + 1, _, by simp, rfl, by omega, Nat.le_refl _, hQ5, hB5⟩
end Go.Proofs.YtoaggmegmgdgbaaGreat
