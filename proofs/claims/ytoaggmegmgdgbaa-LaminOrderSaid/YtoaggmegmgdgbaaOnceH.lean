/- slices.Compact of angles in a row of one's own. -/
import Derived.Test.YtoaggmegmgdgbaaOnceC
import Derived.Test.YtoaggmegmgdgbaaRise
import Derived.Lib.SlicesCompact
import Derived.Lib.SliceRun
namespace Go.Proofs.Ytoaggmegmgdgbaa
open Go.Shelf Go.RowKit Go.Lib Go.Sort

theorem gOfBelow {a b : World} {row : Option Nat} (h : Below a.heap.size a b) : a.grownBy b row := ⟨h.os, h.tape, h.output, h.size, fun j hj _ => h.block j hj⟩
theorem encA_len (x : AngT) : (encA x).length = 3 := rfl
/-- Angles in a row of one's own. -/
def ARow (w : World) (B g n cap : Nat) (d : Array AngT) : Prop := d.size = n ∧ w.ownsRow B 25 3 (.slice (some ⟨g, 0, none⟩) n cap) n (d.toList.flatMap encA)
theorem ARow.cell {w : World} {B g n cap : Nat} {d : Array AngT} (h : ARow w B g n cap d) {i : Nat} (hi : i < n) : ∀ (j : Nat) (u : Value), (encA d[i]!)[j]? = some u → w.cell? ⟨g, i * 3 + j, none⟩ = some u := fun j u hu => by
  obtain ⟨rfl, h⟩ := h
  have hj : j < 3 := by
    obtain ⟨h1, -⟩ := List.getElem?_eq_some_iff.1 hu
    rwa [encA_len] at h1
  have e := flatMap_get encA 3 encA_len d.toList i j (by simpa using hi) hj
  rw [Array.getElem_toList, ← getElem!_pos d i hi, hu] at e
  rw [World.ownsRow.cellAt h _ (by omega)]
  exact e
theorem ARow.frozen {w : World} {B g n cap : Nat} {d : Array AngT} (h : ARow w B g n cap d) (j : Nat) : w.frozen? ⟨g, j, none⟩ = false := World.ownsRow.frozenAt h.2 j
theorem ARow.grown {w w' : World} {B g n cap : Nat} {d : Array AngT} (h : ARow w B g n cap d) (hg : w.grownBy w' none) : ARow w' B g n cap d := ⟨h.1, World.ownsRow.kept h.2 hg (.inr (by simp [Value.ownBlock]))⟩
theorem ARow.drewN {w : World} {B g n cap : Nat} {d : Array AngT} (h : ARow w B g n cap d) (q : Nat) : ARow (w.drewN q) B g n cap d := h.grown ⟨rfl, rfl, rfl, Nat.le_refl _, fun _ _ _ => rfl⟩
theorem bDrewN {B : Nat} {a w : World} (h : Below B a w) (n : Nat) : Below B a (w.drewN n) := ⟨h.os, h.tape, h.output, h.size, h.block⟩
theorem ownsRow_cap {w : World} {B g cap n size : Nat} {e : TypeId} {xs : List Value} (h : w.ownsRow B e size (.slice (some ⟨g, 0, none⟩) n cap) n xs) : n ≤ cap := by
  rcases h.2 with ⟨h', -⟩ | ⟨g', cap', cur, h', hb, hg, hnc, hcm, hcs, ht⟩
  · cases h'
  · injection h' with h1 h2 h3
    omega
theorem flatMap_set {α : Type} (enc : α → List Value) (k : Nat) (hk : ∀ x, (enc x).length = k) (d : Array α) (i : Nat) (x : α) (hi : i < d.size) (xs : List Value) (hl : xs.length = d.size * k) (hin : ∀ j, j < k → xs[i * k + j]? = (enc x)[j]?) (hout : ∀ t, t < i * k ∨ i * k + k ≤ t → xs[t]? = (d.toList.flatMap enc)[t]?) : (d.setIfInBounds i x).toList.flatMap enc = xs := by
  apply List.ext_getElem?
  intro t
  have hfl : ∀ e : Array α, (e.toList.flatMap enc).length = e.size * k := fun e => by rw [flatMap_len enc k hk]; simp
  by_cases ht : t < d.size * k
  · have h0 : 0 < k := by
      rcases Nat.eq_zero_or_pos k with h | h
      · rw [h] at ht; omega
      · exact h
    have hq : t / k < d.size := (Nat.div_lt_iff_lt_mul h0).2 ht
    have e := flatMap_get enc k hk (d.setIfInBounds i x).toList (t / k) (t % k) (by simpa using hq) (Nat.mod_lt _ h0)
    have e2 := flatMap_get enc k hk d.toList (t / k) (t % k) (by simpa using hq) (Nat.mod_lt _ h0)
    have et : t / k * k + t % k = t := by rw [Nat.mul_comm]; exact Nat.div_add_mod t k
    rw [et] at e e2
    rw [e]
    by_cases hi2 : t / k = i
    · have := hin (t % k) (Nat.mod_lt _ h0)
      rw [← hi2, et] at this
      rw [this]
      simp [hi2, Array.getElem_toList]
    · rw [hout t (by
        rcases Nat.lt_or_gt_of_ne hi2 with h | h
        · left
          have h3 := (Nat.div_lt_iff_lt_mul h0).1 h
          exact h3
        · right
          have h3 : i + 1 ≤ t / k := h
          have h4 := (Nat.le_div_iff_mul_le h0).1 h3
          rw [Nat.succ_mul] at h4
          exact h4), e2]
      congr 1
      simp only [Array.getElem_toList]
      rw [Array.getElem_setIfInBounds, if_neg (fun e => hi2 e.symm)]
  · rw [List.getElem?_eq_none (by rw [hfl]; simpa using ht), List.getElem?_eq_none (by rw [hl]; omega)]
theorem ARow.set {w : World} {B g n cap : Nat} {d : Array AngT} (h : ARow w B g n cap d) {i : Nat} (hi : i < n) (x : AngT) : ARow (((w.setCell ⟨g, i * 3, none⟩ (.bool false)).setCell ⟨g, i * 3 + 1, none⟩ (.string (natS x.1.1))).setCell ⟨g, i * 3 + 2, none⟩ (.string (natS x.1.2))) B g n cap (d.setIfInBounds i x) ∧ w.grownBy (((w.setCell ⟨g, i * 3, none⟩ (.bool false)).setCell ⟨g, i * 3 + 1, none⟩ (.string (natS x.1.1))).setCell ⟨g, i * 3 + 2, none⟩ (.string (natS x.1.2))) (some g) := by
  obtain ⟨rfl, h⟩ := h
  obtain ⟨h1, g1⟩ := World.ownsRow.stored h (i * 3) (.bool false)
  obtain ⟨h2, g2⟩ := World.ownsRow.stored h1 (i * 3 + 1) (.string (natS x.1.1))
  obtain ⟨h3, g3⟩ := World.ownsRow.stored h2 (i * 3 + 2) (.string (natS x.1.2))
  refine ⟨⟨by simp, ?_⟩, (g1.trans g2).trans g3⟩
  have hl : (d.toList.flatMap encA).length = d.size * 3 := by rw [flatMap_len encA 3 encA_len]; simp
  rw [flatMap_set encA 3 encA_len d i x hi ((((d.toList.flatMap encA).set (i * 3) (.bool false)).set (i * 3 + 1) (.string (natS x.1.1))).set (i * 3 + 2) (.string (natS x.1.2))) (by simpa using hl) (fun j hj => ?_) (fun t ht => ?_)]
  · exact h3
  · have hlt : i * 3 + 2 < (d.toList.flatMap encA).length := by rw [hl]; omega
    rcases (by omega : j = 0 ∨ j = 1 ∨ j = 2) with rfl | rfl | rfl
    · rw [List.getElem?_set_ne (by omega), List.getElem?_set_ne (by omega), Nat.add_zero, List.getElem?_set_self (by omega)]; rfl
    · rw [List.getElem?_set_ne (by omega), List.getElem?_set_self (by rw [List.length_set]; omega)]; rfl
    · rw [List.getElem?_set_self (by rw [List.length_set, List.length_set]; omega)]; rfl
  · rw [List.getElem?_set_ne (by omega), List.getElem?_set_ne (by omega), List.getElem?_set_ne (by omega)]
/-- Cells set one by one in a row of one's own, behind a place. -/
theorem setCells_own {B g cap n size : Nat} {e : TypeId} : ∀ (vs : List Value) (o : Nat) (w : World) (xs : List Value), w.ownsRow B e size (.slice (some ⟨g, 0, none⟩) n cap) n xs → ∃ ys, (w.setCells g o vs).ownsRow B e size (.slice (some ⟨g, 0, none⟩) n cap) n ys ∧ (∀ t, t < o → ys[t]? = xs[t]?) ∧ w.grownBy (w.setCells g o vs) (some g)
  | [], _, w, xs, h => ⟨xs, h, fun _ _ => rfl, ⟨rfl, rfl, rfl, Nat.le_refl _, fun _ _ _ => rfl⟩⟩
  | v :: r, o, w, xs, h => by
    obtain ⟨h1, g1⟩ := World.ownsRow.stored h o v
    obtain ⟨ys, h2, h3, g2⟩ := setCells_own r (o + 1) _ _ h1
    refine ⟨ys, h2, fun t ht => ?_, g1.trans g2⟩
    rw [h3 t (by omega), List.getElem?_set_ne (by omega)]
/-- The first of a row's. -/
theorem ownsRow_cut {w : World} {B g cap n m size : Nat} {e : TypeId} {xs : List Value} (h : w.ownsRow B e size (.slice (some ⟨g, 0, none⟩) n cap) n xs) (hm : m ≤ n) : w.ownsRow B e size (.slice (some ⟨g, 0, none⟩) m cap) m (xs.take (m * size)) := by
  have hmul : m * size ≤ n * size := Nat.mul_le_mul_right _ hm
  refine ⟨by rw [List.length_take, h.1]; omega, ?_⟩
  rcases h.2 with ⟨h', -⟩ | ⟨g', cap', cur, h', hb, hg, hnc, hcm, hcs, ht⟩
  · cases h'
  · injection h' with h1 h2 h3
    injection h1 with h1
    injection h1 with h1
    subst h1 h3
    refine .inr ⟨g, cap, cur, rfl, hb, hg, by omega, hcm, hcs, ?_⟩
    rw [← ht, List.take_take, Nat.min_eq_left hmul]
theorem flatMap_take {α : Type} (enc : α → List Value) (k : Nat) (hk : ∀ x, (enc x).length = k) : ∀ (l : List α) (m : Nat), (l.flatMap enc).take (m * k) = (l.take m).flatMap enc
  | [], m => by simp
  | x :: r, 0 => by simp
  | x :: r, m + 1 => by
    rw [List.flatMap_cons, List.take_succ_cons, List.flatMap_cons, Nat.succ_mul, Nat.add_comm, ← hk x, List.take_length_add_append, hk x, flatMap_take enc k hk r m]
theorem compactUpTo_eq (d : Array AngT) : ∀ m, m ≤ d.size → compactUpTo d m = compactL (d.toList.take m)
  | 0, _ => by simp [compactUpTo, compactL]
  | 1, h => by
    rw [compactUpTo_all d 1 (keeps_lt_one d)]
    have : d.toList.take 1 = [d[0]!] := by
      rw [List.take_one, List.head?_eq_getElem?, Array.getElem?_toList, getElem!_pos d 0 (by omega), Array.getElem?_eq_getElem (by omega)]; rfl
    rw [this]; rfl
  | m + 2, h => by
    have e : d.toList.take (m + 2) = d.toList.take m ++ [d[m]!, d[m + 1]!] := by
      rw [show m + 2 = (m + 1) + 1 from rfl, List.take_add_one, List.take_add_one, List.append_assoc, Array.getElem?_toList, Array.getElem?_toList, getElem!_pos d m (by omega), getElem!_pos d (m + 1) (by omega), Array.getElem?_eq_getElem (by omega), Array.getElem?_eq_getElem (by omega)]; rfl
    have e1 : d.toList.take (m + 1) = d.toList.take m ++ [d[m]!] := by
      rw [List.take_add_one, Array.getElem?_toList, getElem!_pos d m (by omega), Array.getElem?_eq_getElem (by omega)]; rfl
    rw [compactUpTo_succ, compactUpTo_eq d (m + 1) (by omega), e, compactL_snoc, e1]
    by_cases hk : d[m]! = d[m + 1]!
    · rw [if_pos hk, if_neg (by rw [keeps_neg (by omega) (by simpa using hk.symm)]; decide)]; simp
    · rw [if_neg hk, if_pos (keeps_pos (by simpa using fun e => hk e.symm))]
/-- 'clear' of the rest of a row of angles. -/
theorem run_clearA {w : World} {B g n cap : Nat} {d : Array AngT} (h : ARow w B g n cap d) (kk : Nat) (hk : kk < n) (ty : TypeId) (c : Nat) : (Builtin.clear_ #[41] ty #[.slice (some ⟨g, kk * 3, none⟩) (n - kk) c]).run Try.prog w = .ok (.tuple #[]) (w.setCells g (kk * 3) (Builtin.zeroCells #[.bool false, .string ⟨#[]⟩, .string ⟨#[]⟩] (n - kk)).toList) := by
  obtain ⟨rfl, h⟩ := h
  have hcell : ∀ t, t < d.size * 3 → (w.cell? ⟨g, t, none⟩).isSome = true := fun t ht => by
    rw [World.ownsRow.cellAt h t ht, List.getElem?_eq_getElem (by rw [h.1]; exact ht)]; rfl
  have hlen : (Builtin.zeroCells #[.bool false, .string ⟨#[]⟩, .string ⟨#[]⟩] (d.size - kk)).toList.length = (d.size - kk) * 3 := by simp [Builtin.zeroCells]
  have hst := run_storeCells_cells (P := Try.prog) g (kk * 3) (Builtin.zeroCells #[.bool false, .string ⟨#[]⟩, .string ⟨#[]⟩] (d.size - kk)).toList 0 w (fun j hj => by rw [hlen] at hj; exact hcell _ (by omega)) (fun j hj => World.ownsRow.frozenAt h _) (fun v hv => by
    simp only [Builtin.zeroCells, Array.toList_map, List.mem_map] at hv
    obtain ⟨t, -, rfl⟩ := hv
    have : t % 3 < 3 := Nat.mod_lt _ (by decide)
    show (#[Value.bool false, .string ⟨#[]⟩, .string ⟨#[]⟩][t % 3]!).oneCell' = true
    rcases (by omega : t % 3 = 0 ∨ t % 3 = 1 ∨ t % 3 = 2) with e | e | e <;> rw [e] <;> rfl)
  simp only [Nat.add_zero] at hst
  have hv : ∀ w, (zeroValue 25).run Try.prog w = .ok (.agg #[.bool false, .string ⟨#[]⟩, .string ⟨#[]⟩]) w := fun w => by kernel_rfl
  have ht : Try.prog.underlying 41 = some (.slice 25) := Try.underlying41
  obtain ⟨m, hm⟩ : ∃ m, d.size - kk = m + 1 := ⟨d.size - kk - 1, by omega⟩
  rw [hm] at hst ⊢
  simp [Builtin.clear_, run_underlying ht, hv, Value.cells, hst]

set_option maxRecDepth 100000 in
set_option maxHeartbeats 4000000 in
/-- slices.Compact of angles. -/
theorem lcompactA (B g cap : Nat) (d : Array AngT) (w : World) (h : w.ownsRow B 25 3 (.slice (some ⟨g, 0, none⟩) d.size cap) d.size (d.toList.flatMap encA)) (hsz : d.size ≤ 1048576) :
    Calls Try.prog 47 #[.slice (some ⟨g, 0, none⟩) d.size cap] w fun e w' => e = .returned (.slice (some ⟨g, 0, none⟩) (compactL d.toList).length cap) ∧ w'.ownsRow B 25 3 (.slice (some ⟨g, 0, none⟩) (compactL d.toList).length cap) (compactL d.toList).length ((compactL d.toList).flatMap encA) ∧ w.grownBy w' (some g) := by
  have hH : Hid (ARow w B g d.size cap d) := Lib.hid ⟨rfl, h⟩
  have hcap : d.size ≤ cap := ownsRow_cap h
  clear h
  have SAME : Hid (∀ W, Below w.heap.size w W → (∀ j, j < d.size → keeps d j = true) → (compactL d.toList).length = d.size ∧ W.ownsRow B 25 3 (.slice (some ⟨g, 0, none⟩) (compactL d.toList).length cap) (compactL d.toList).length ((compactL d.toList).flatMap encA)) := Lib.hid (fun W hb hall => by
    have e : compactL d.toList = d.toList := by
      have h1 := compactUpTo_eq d d.size (Nat.le_refl _)
      rw [compactUpTo_all d _ hall, range_map_get, List.take_of_length_le (by simp)] at h1
      exact h1.symm
    rw [e]
    refine ⟨by simp, ?_⟩
    rw [Array.length_toList]
    exact (hH.out.grown (gOfBelow hb)).2)
  obtain ⟨n, hn⟩ : ∃ n, n = d.size := ⟨_, rfl⟩
  by_cases h2 : n < 2
  case pos =>
    rw [← hn] at hH SAME hsz hcap ⊢
    replace hn := Lib.hid hn
    go_enter Try.func47, Try.ntmps47
    go_wp2
    go_ret
    obtain ⟨e1, e2⟩ := SAME.out w (Below.refl _ _) (fun j hj => keeps_lt_one d j (by omega))
    exact ⟨by rw [e1]; rfl, e2, gb_refl _ _⟩
  case neg =>
    rw [← hn] at hH SAME hsz hcap ⊢
    replace hn := Lib.hid hn
    go_enter Try.func47, Try.ntmps47
    go_wp2
    go_loopg [3] n (fun gg s3 wr => ∃ k : Nat, 1 ≤ k ∧ k ≤ n ∧ n - k ≤ gg ∧ s3 = .int .i64 (k : Int) ∧ Hid (Below w.heap.size w wr) ∧ Hid (∀ j, j < k → keeps d j = true))
    case atStart => exact ⟨1, Nat.le_refl _, by omega, by omega, rfl, Lib.hid (Below.refl _ _), Lib.hid (keeps_lt_one d)⟩
    case round =>
      obtain ⟨k, hk1, hk, hg, rfl, hb, A⟩ := hrel
      by_cases hlt : k < n
      case pos =>
        have hR : ARow wr B g n cap d := hH.out.grown (gOfBelow hb.out)
        have x1C := ARow.cell hR hlt
        have x0C := ARow.cell hR (show k - 1 < n by omega)
        obtain ⟨x, hx⟩ : ∃ x, x = d[k]! := ⟨_, rfl⟩
        obtain ⟨y, hy⟩ : ∃ y, y = d[k - 1]! := ⟨_, rfl⟩
        rw [← hx] at x1C
        rw [← hy] at x0C
        replace hx := Lib.hid hx
        replace hy := Lib.hid hy
        replace hR := Lib.hid hR
        have x10 : wr.cell? ⟨g, k * 3, none⟩ = some (.bool false) := x1C 0 _ rfl
        have x11 : wr.cell? ⟨g, k * 3 + 1, none⟩ = some (.string (natS x.1.1)) := x1C 1 _ rfl
        have x12 : wr.cell? ⟨g, k * 3 + 2, none⟩ = some (.string (natS x.1.2)) := x1C 2 _ rfl
        clear x1C
        have x00 : wr.cell? ⟨g, (k - 1) * 3, none⟩ = some (.bool false) := x0C 0 _ rfl
        have x01 : wr.cell? ⟨g, (k - 1) * 3 + 1, none⟩ = some (.string (natS y.1.1)) := x0C 1 _ rfl
        have x02 : wr.cell? ⟨g, (k - 1) * 3 + 2, none⟩ = some (.string (natS y.1.2)) := x0C 2 _ rfl
        clear x0C
        rcases pair_cases x.1 y.1 with ⟨e0, e1, e2⟩ | ⟨e0, e1, e2⟩ | ⟨e0, e1⟩
        case inl =>
          have hck : ¬ cap = k := by omega
          have hxy : Hid (x = y) := Lib.hid (Subtype.ext e0)
          clear e0
          go_wp2_with fail
          go_quiet (fail)
          go_wp2
          clear x10 x11 x12 x00 x01 x02 e1 e2
          obtain ⟨w0, hw0⟩ : ∃ W, W = wr.drewN nq := ⟨_, rfl⟩
          have hR0 : Hid (ARow w0 B g n cap d) := Lib.hid (by rw [hw0]; exact hR.out.drewN nq)
          have hG0 : Hid (w.grownBy w0 (some g)) := Lib.hid (by rw [hw0]; exact gOfBelow (bDrewN hb.out nq))
          rw [← hw0]
          clear hR hb hw0
          go_loopg [3, 5] n (fun gg s3 s5 wr => ∃ (kk k2 : Nat) (dk : Array AngT), s3 = .int .i64 (kk : Int) ∧ s5 = .int .i64 (k2 : Int) ∧ 1 ≤ k2 ∧ k + k2 ≤ n ∧ n - (k + k2) ≤ gg ∧ kk < k + k2 ∧ Hid (ARow wr B g n cap dk) ∧ Hid (w.grownBy wr (some g)) ∧ Hid (CompInv d (k + k2) kk dk))
          case atStart =>
            exact ⟨k, 1, d, rfl, rfl, Nat.le_refl _, by omega, by omega, by omega, hR0, hG0, Lib.hid (CompInv.start A.out (keeps_neg (by omega) (by rw [← hx.out, ← hy.out, hxy.out])))⟩
          case round =>
            clear hR0 hG0
            obtain ⟨kk, k2, dk, rfl, rfl, h1, hle, hg2, hkk, hR, hG, hI⟩ := hrel
            by_cases hlt2 : k + k2 < n
            case pos =>
              have umC := ARow.cell hR.out hlt2
              have upC := ARow.cell hR.out (show k + k2 - 1 < n by omega)
              have ukC := ARow.cell hR.out (show kk < n by omega)
              rw [hI.out.high (k + k2) (by omega), Nat.add_mul] at umC
              rw [hI.out.high (k + k2 - 1) (by omega), show k + k2 - 1 = k + (k2 - 1) by omega, Nat.add_mul] at upC
              have fk0 := hR.out.frozen (kk * 3)
              have fk1 := hR.out.frozen (kk * 3 + 1)
              have fk2 := hR.out.frozen (kk * 3 + 2)
              obtain ⟨u, hu⟩ : ∃ u, u = d[k + k2]! := ⟨_, rfl⟩
              obtain ⟨v, hv⟩ : ∃ v, v = d[k + (k2 - 1)]! := ⟨_, rfl⟩
              obtain ⟨ol, hol⟩ : ∃ v, v = dk[kk]! := ⟨_, rfl⟩
              rw [← hu] at umC
              rw [← hv] at upC
              rw [← hol] at ukC
              replace hu := Lib.hid hu
              replace hv : Hid (v = d[k + k2 - 1]!) := Lib.hid (by rw [hv, show k + k2 - 1 = k + (k2 - 1) by omega])
              clear hol
              have um0 : wr.cell? ⟨g, k * 3 + k2 * 3, none⟩ = some (.bool false) := umC 0 _ rfl
              have um1 : wr.cell? ⟨g, k * 3 + k2 * 3 + 1, none⟩ = some (.string (natS u.1.1)) := umC 1 _ rfl
              have um2 : wr.cell? ⟨g, k * 3 + k2 * 3 + 2, none⟩ = some (.string (natS u.1.2)) := umC 2 _ rfl
              clear umC
              have up0 : wr.cell? ⟨g, k * 3 + (k2 - 1) * 3, none⟩ = some (.bool false) := upC 0 _ rfl
              have up1 : wr.cell? ⟨g, k * 3 + (k2 - 1) * 3 + 1, none⟩ = some (.string (natS v.1.1)) := upC 1 _ rfl
              have up2 : wr.cell? ⟨g, k * 3 + (k2 - 1) * 3 + 2, none⟩ = some (.string (natS v.1.2)) := upC 2 _ rfl
              clear upC
              have uk0 : wr.cell? ⟨g, kk * 3, none⟩ = some (.bool false) := ukC 0 _ rfl
              have uk1 : wr.cell? ⟨g, kk * 3 + 1, none⟩ = some (.string (natS ol.1.1)) := ukC 1 _ rfl
              have uk2 : wr.cell? ⟨g, kk * 3 + 2, none⟩ = some (.string (natS ol.1.2)) := ukC 2 _ rfl
              clear ukC
              rcases pair_cases u.1 v.1 with ⟨e0, e1, e2⟩ | ⟨e0, e1, e2⟩ | ⟨e0, e1⟩
              case inl =>
                have huv : Hid (u = v) := Lib.hid (Subtype.ext e0)
                clear e0
                go_wp2_with fail
                go_quiet (fail)
                go_wp2
                go_roundg (n - (k + (k2 + 1)))
                case measure => omega
                case rel => exact ⟨kk, k2 + 1, dk, rfl, by go_num, by omega, by omega, Nat.le_refl _, by omega, Lib.hid (hR.out.drewN nq), Lib.hid (gb_drewN hG.out nq), Lib.hid (hI.out.skip (keeps_neg (by omega) (by rw [← hu.out, ← hv.out, huv.out])))⟩
              all_goals
                have huv : Hid (u ≠ v) := Lib.hid (fun e => e0 (congrArg Subtype.val e))
                clear e0
                go_wp2_with fail
                go_quiet (fail)
                replace um0 : (wr.drewN nq).cell? _ = _ := um0
                replace uk0 : (wr.drewN nq).cell? _ = _ := uk0
                replace fk0 : (wr.drewN nq).frozen? _ = _ := fk0
                replace um1 : (wr.drewN nq).cell? _ = _ := um1
                replace uk1 : (wr.drewN nq).cell? _ = _ := uk1
                replace fk1 : (wr.drewN nq).frozen? _ = _ := fk1
                replace um2 : (wr.drewN nq).cell? _ = _ := um2
                replace uk2 : (wr.drewN nq).cell? _ = _ := uk2
                replace fk2 : (wr.drewN nq).frozen? _ = _ := fk2
                go_wp2
                go_roundg (n - (k + (k2 + 1)))
                case measure => omega
                case rel =>
                  obtain ⟨q1, q2⟩ := (hR.out.drewN nq).set (show kk < n by omega) u
                  exact ⟨kk + 1, k2 + 1, dk.setIfInBounds kk u, by go_num, by go_num, by omega, by omega, Nat.le_refl _, by omega, Lib.hid q1, Lib.hid (gb_trans (gb_drewN hG.out nq) q2), Lib.hid (by have := hI.out.keep (by rw [← hn.out]; exact hlt2) (keeps_pos (by rw [← hu.out, ← hv.out]; exact huv.out)); rwa [← hu.out] at this)⟩
            case neg =>
              have hend : k + k2 = n := by omega
              have hcl : ∀ ty, (Builtin.clear_ #[41] ty #[.slice (some ⟨g, kk * 3, none⟩) (n - kk) (cap - kk)]).run Try.prog wr = .ok (.tuple #[]) (wr.setCells g (kk * 3) (Builtin.zeroCells #[.bool false, .string ⟨#[]⟩, .string ⟨#[]⟩] (n - kk)).toList) := fun ty => run_clearA hR.out kk (by omega) ty (cap - kk)
              have hFIN : Hid (kk = (compactL d.toList).length ∧ (wr.setCells g (kk * 3) (Builtin.zeroCells #[.bool false, .string ⟨#[]⟩, .string ⟨#[]⟩] (n - kk)).toList).ownsRow B 25 3 (.slice (some ⟨g, 0, none⟩) kk cap) kk ((compactL d.toList).flatMap encA) ∧ w.grownBy (wr.setCells g (kk * 3) (Builtin.zeroCells #[.bool false, .string ⟨#[]⟩, .string ⟨#[]⟩] (n - kk)).toList) (some g)) := Lib.hid (by
                have hI2 := hI.out
                rw [hend, hn.out] at hI2
                have ec : compactUpTo d d.size = compactL d.toList := by
                  have h1 := compactUpTo_eq d d.size (Nat.le_refl _)
                  rwa [List.take_of_length_le (by simp)] at h1
                have hlen := hI2.len
                rw [ec] at hlen
                obtain ⟨ys, y1, y2, y3⟩ := setCells_own (Builtin.zeroCells #[.bool false, .string ⟨#[]⟩, .string ⟨#[]⟩] (n - kk)).toList (kk * 3) wr _ hR.out.2
                refine ⟨hlen.symm, ?_, gb_trans hG.out y3⟩
                have y4 := ownsRow_cut y1 (show kk ≤ n by omega)
                have hk0 : kk < d.size := by rw [← hn.out]; omega
                have e : ys.take (kk * 3) = (compactL d.toList).flatMap encA := by
                  have e1 : (dk.toList.take kk).flatMap encA = (compactL d.toList).flatMap encA := by
                    congr 1
                    apply List.ext_getElem?
                    intro j
                    rw [List.getElem?_take]
                    split
                    · rename_i hj
                      have := hI2.low j hj
                      rw [ec] at this
                      rw [this, Array.getElem?_toList, getElem!_pos dk j (by have := hI2.size; omega), Array.getElem?_eq_getElem]
                    · rw [List.getElem?_eq_none (by omega)]
                  rw [← e1, ← flatMap_take encA 3 encA_len]
                  apply List.ext_getElem?
                  intro j
                  rw [List.getElem?_take, List.getElem?_take]
                  split
                  · rename_i hj
                    exact y2 j hj
                  · rfl
                rwa [e] at y4)
              clear hR hG hI
              go_wp2
              go_ret
              exact ⟨by rw [← hFIN.out.1]; rfl, by rw [← hFIN.out.1]; exact hFIN.out.2.1, hFIN.out.2.2⟩
        all_goals
          have hxy : Hid (x ≠ y) := Lib.hid (fun e => e0 (congrArg Subtype.val e))
          clear e0
          go_wp2_with fail
          go_quiet (fail)
          go_wp2
          go_roundg (n - (k + 1))
          case measure => omega
          case rel =>
            refine ⟨k + 1, by omega, by omega, Nat.le_refl _, by go_num, Lib.hid (bDrewN hb.out nq), Lib.hid (fun j hj => ?_)⟩
            by_cases e : j = k
            · subst e
              exact keeps_pos (by rw [← hx.out, ← hy.out]; exact hxy.out)
            · exact A.out j (by omega)
      case neg =>
        obtain rfl : k = n := by omega
        clear hg
        go_wp2
        go_ret
        obtain ⟨e1, e2⟩ := SAME.out wr hb.out A.out
        exact ⟨by rw [e1]; rfl, e2, gOfBelow hb.out⟩
end Go.Proofs.Ytoaggmegmgdgbaa
