/- Package itin: root, lowest, at, Check. · Package itin: at, Check. -/
import Derived.Test.YtbddlbhanpjdnaaGreatDoorItA
import Derived.Test.YtbddlbhanpjdnaaGreatDoorBack
import Derived.WalkMore
import Derived.BigQuiet
namespace Go.Proofs.YtbddlbhanpjdnaaGreatDoor
open Go.RowKit Go.Sort

/-- A slice that reads: its length, and its cells where there are some. -/
theorem rd_cells {k : IntKind} {T : TypeId} {w : World} {A : Option Addr} {n c : Nat} {l : List Nat} (h : Rd k T w (.slice A n c) l) : n = l.length ∧ l.length ≤ c ∧ c ≤ maxLen ∧ (l ≠ [] → ∃ g off, A = some ⟨g, off, none⟩ ∧ g < w.heap.size ∧ ∀ (j x : Nat), l[j]? = some x → w.cell? ⟨g, off + j, none⟩ = some (Value.int k (x : Int))) := by
  obtain ⟨A', c', e, h1, h2, h3⟩ := h
  injection e with e1 e2 e3
  subst e1 e3
  refine ⟨e2, h1, h2, fun hn => ?_⟩
  obtain ⟨g, off, L, e, hr, hL⟩ := h3 hn
  exact ⟨g, off, e, hr.lt, fun j x hj => hr.cell (hL j x hj)⟩

set_option maxRecDepth 100000 in
set_option maxHeartbeats 2000000 in
/-- itin.root -/
theorem root_any {T : TypeId} (A : Option Addr) (L c : Nat) (l : List Nat) (w : World) (h : Rd .u8 T w (.slice A L c) l) (h0 : 0 < l.length) (hlen : l.length ≤ 140737488355328) :
    Calls Tryz.prog 63 #[.slice A L c] w fun e w' => (∃ c', e = .returned (.slice A (rootM l) c') ∧ rootM l ≤ c' ∧ c' ≤ maxLen) ∧ Dr w w' := by
  obtain ⟨rfl, hc1, hc2, hcell⟩ := rd_cells h
  obtain ⟨g, off, rfl, hg, hcell⟩ := hcell (fun e => by rw [e] at h0; exact absurd h0 (by simp))
  obtain ⟨L, hL⟩ : ∃ L, L = l.length := ⟨_, rfl⟩
  rw [← hL] at h0 hlen hc1 ⊢
  replace hcell := Lib.hid hcell
  replace hL := Lib.hid hL
  replace hc2 := Lib.hid hc2
  clear h hg
  go_enter Tryz.func63, Tryz.ntmps63
  go_wp2_with fail
  apply wp_scope_straight
  go_wp2_with fail
  apply wp_label
  go_wp2_with fail
  go_loopw [2, 3, 4] (fun _ nv _ wr => ∃ n : Nat, nv = .int .i64 (n : Int) ∧ 1 ≤ n ∧ n ≤ L ∧ (∀ k, 1 ≤ k → k < n → per l k = false) ∧ Dr w wr) (fun _ nv _ _ => L - (intOf nv).toNat)
  case atStart => exact ⟨1, rfl, Nat.le_refl _, h0, fun k h1 h2 => by omega, Dr.refl _⟩
  case round =>
    obtain ⟨n, rfl, hn1, hnL, hno, nd, rfl⟩ := hrel
    replace hno := Lib.hid hno
    by_cases h1 : n < L
    · have h1I : (n : Int) < (L : Int) := by omega
      obtain ⟨m, hm⟩ : ∃ m, m = L % n := ⟨_, rfl⟩
      have hmI : (L : Int).tmod (n : Int) = (m : Int) := by rw [hm]; exact tmod_nat L n
      have hn0 : ¬ (n : Int) = 0 := by omega
      have hmw : wrap64 (m : Int) = (m : Int) := by
        have : m < n := by rw [hm]; exact Nat.mod_lt _ (by omega)
        have := hlen
        unfold wrap64; omega
      by_cases hm0 : m = 0
      · have hper := per_step (q := l) hn1 (by rw [← hL.out, ← hm]; exact hm0)
        subst hm0
        replace hper := Lib.hid hper
        clear hm
        go_wp2_with fail
        go_loopw [4] (fun iv wq => ∃ i : Nat, iv = .int .i64 (i : Int) ∧ n ≤ i ∧ i ≤ L ∧ (∀ j, n ≤ j → j < i → l.getD j 0 = l.getD (j - n) 0) ∧ Dr (w.drewN nd) wq) (fun iv _ => L - (intOf iv).toNat)
        case atStart => exact ⟨n, rfl, Nat.le_refl _, Nat.le_of_lt h1, fun j j1 j2 => by omega, Dr.refl _⟩
        case round =>
          obtain ⟨i, rfl, hi1, hi2, hsame, nd2, rfl⟩ := hrel
          replace hsame := Lib.hid hsame
          by_cases h2 : i < L
          · have h2I : (i : Int) < (L : Int) := by omega
            have hnI : (n : Int) ≤ (i : Int) := by omega
            have e1 : l[i]? = some (l.getD i 0) := by
              have : i < l.length := by rw [← hL.out]; exact h2
              simp [List.getD, this]
            have e2 : l[i - n]? = some (l.getD (i - n) 0) := by
              have : i - n < l.length := by rw [← hL.out]; omega
              simp [List.getD, this]
            obtain ⟨x, hx⟩ : ∃ x, x = l.getD i 0 := ⟨_, rfl⟩
            obtain ⟨y, hy⟩ : ∃ y, y = l.getD (i - n) 0 := ⟨_, rfl⟩
            obtain ⟨t, ht⟩ : ∃ t, t = i - n := ⟨_, rfl⟩
            rw [← hx] at e1
            rw [← hy, ← ht] at e2
            have c1 : w.cell? ⟨g, off + i, none⟩ = some (.int .u8 (x : Int)) := hcell.out i x e1
            have c2 : w.cell? ⟨g, off + t, none⟩ = some (.int .u8 (y : Int)) := hcell.out t y e2
            have hti : (i : Int) - (n : Int) = (t : Int) := by omega
            have htL : (t : Int) < (L : Int) := by omega
            have ht0 : (0 : Int) ≤ (t : Int) := by omega
            replace hx := Lib.hid hx
            replace hy := Lib.hid hy
            replace ht := Lib.hid ht
            clear e1 e2
            by_cases hxy : x = y
            · subst hxy
              have hsame2 : Hid (∀ j, n ≤ j → j < i + 1 → l.getD j 0 = l.getD (j - n) 0) := Lib.hid (fun j j1 j2 => by
                by_cases e : j = i
                · subst e; rw [← hx.out, hy.out]
                · exact hsame.out j j1 (by omega))
              go_wp2_with fail
              go_quiet (fail)
              go_wp2_with fail
              go_roundw
              case rel => exact ⟨i + 1, by go_num, by omega, by omega, hsame2.out, ⟨nd2 + nq, by rw [World.drewN_drewN, Nat.add_assoc]⟩⟩
              case measure => simp [intOf]; omega
            · have hxyI : ¬ (x : Int) = (y : Int) := by omega
              have hno2 : Hid (∀ k, 1 ≤ k → k < n + 1 → per l k = false) := Lib.hid (fun k k1 k2 => by
                by_cases e : k = n
                · subst e
                  cases h : per l k
                  · rfl
                  · have := hper.out.1 h i hi1 (by rw [← hL.out]; exact h2)
                    rw [← hx.out, ← ht.out] at this
                    rw [ht.out, ← hy.out] at this
                    exact absurd this hxy
                · exact hno.out k k1 (by omega))
              go_wp2_with fail
              go_quiet (fail)
              go_wp2_with fail
              go_roundw
              case rel => exact ⟨n + 1, by go_num, by omega, by omega, hno2.out, ⟨nd + nd2 + nq, rfl⟩⟩
              case measure => simp [intOf]; omega
          · obtain rfl : i = L := by omega
            have h2I : ¬ (i : Int) < (i : Int) := by omega
            have hv : Hid (rootM l = n) := Lib.hid ((rootM_eq (by rw [← hL.out]; omega) hn1 (hper.out.2 (fun j j1 j2 => hsame.out j j1 (by rw [hL.out]; exact j2))) hno.out).symm)
            go_wp2_with fail
            go_ret
            exact ⟨⟨n, by rw [hv.out]; rfl, by rw [hv.out]; exact Nat.le_refl _, by have := hc2.out; omega⟩, ⟨nd + nd2, rfl⟩⟩
      · have hm0I : ¬ (m : Int) = 0 := by omega
        have hno2 : Hid (∀ k, 1 ≤ k → k < n + 1 → per l k = false) := Lib.hid (fun k k1 k2 => by
          by_cases e : k = n
          · subst e
            cases h : per l k
            · rfl
            · have := (per_iff.1 h).1
              rw [← hL.out, ← hm] at this
              exact absurd this hm0
          · exact hno.out k k1 (by omega))
        clear hm
        go_wp2_with fail
        go_roundw
        case rel => exact ⟨n + 1, by go_num, by omega, by omega, hno2.out, ⟨_, rfl⟩⟩
        case measure => simp [intOf]; omega
    · obtain rfl : n = L := by omega
      have h1I : ¬ (n : Int) < (n : Int) := by omega
      have hv : Hid (rootM l = n) := Lib.hid (by
        rw [hL.out]
        exact (rootM_eq (by rw [← hL.out]; exact h0) (by rw [← hL.out]; exact h0) (per_all l) (fun k k1 k2 => hno.out k k1 (by rw [hL.out]; exact k2))).symm)
      go_wp2_with fail
      go_ret
      exact ⟨⟨c, by rw [hv.out]; rfl, by rw [hv.out]; exact hc1, hc2.out⟩, ⟨_, rfl⟩⟩

set_option maxRecDepth 100000 in
/-- slices.Clip -/
theorem clip_any (A : Option Addr) (n c : Nat) (w : World) (h : n ≤ c) :
    Calls Tryz.prog 64 #[.slice A n c] w fun e w' => e = .returned (.slice A n n) ∧ w' = w := by
  go_enter Tryz.func64, Tryz.ntmps64
  go_wp2_with fail
  go_ret
  exact ⟨rfl, rfl⟩

/-- The outcome: a row in memory of its own, both lists cut to their lengths. -/
def Pc (w : World) (B : Nat) (v : Value) (l : List Nat) : Prop := Pf w B v l ∧ ∃ A, v = .slice A l.length l.length
def RetPQ (P Q : List Nat) (w : World) (e : Ending) (w' : World) : Prop :=
  ∃ v1 v2, e = .returned (.agg #[v1, v2]) ∧ Pc w' w.heap.size v1 P ∧ Pc w' w.heap.size v2 Q ∧ Below w.heap.size w w'

theorem own_one (w : World) (T : TypeId) (x : Value) {B : Nat} (hB : B ≤ w.heap.size) : (w.alloc (.cells #[x] T)).ownsRow B T 1 (.slice (some ⟨w.heap.size, 0, none⟩) 1 1) 1 [x] :=
  ⟨rfl, .inr ⟨w.heap.size, 1, #[x], rfl, hB, heap_alloc_new w _, Nat.le_refl _, by unfold maxLen; omega, rfl, rfl⟩⟩
theorem lowN_step {p q : List Nat} {m n : Nat} (h : rowAt p q n = rowAt p q (n + m)) : lowN p q m (n + 1) = lowN p q m n := by simp [lowN, h]
theorem lowN_stop {p q : List Nat} {m n : Nat} (h : rowAt p q n ≠ rowAt p q (n + m)) : lowN p q m (n + 1) = n + 1 := by simp [lowN, h]
theorem rowL_take {p q : List Nat} {a k n : Nat} (h : n ≤ k) : (rowL p q a k).take n = rowL p q a n := by
  refine List.ext_getElem? fun i => ?_
  rcases Nat.lt_or_ge i n with hi | hi
  · rw [List.getElem?_take_of_lt hi, rowL_get (by omega), rowL_get hi]
  · rw [List.getElem?_eq_none (by rw [List.length_take, rowL_len]; omega), List.getElem?_eq_none (by rw [rowL_len]; exact hi)]

set_option maxRecDepth 100000 in
set_option maxHeartbeats 2000000 in
/-- itin.lowest -/
theorem lowest_row {T1 T2 : TypeId} (A1 A2 : Option Addr) (n1 c1 n2 c2 : Nat) (P Q : List Nat) (w : World) (h1 : Rd .u8 T1 w (.slice A1 n1 c1) P) (h2 : Rd .u8 T2 w (.slice A2 n2 c2) Q)
    (hQ : 0 < Q.length) (hP9 : P.length ≤ 1099511627776) (hQ9 : Q.length ≤ 1099511627776) :
    Calls Tryz.prog 34 #[.agg #[.slice A1 n1 c1, .slice A2 n2 c2]] w (RetPQ (lowP P Q) (lowQ P Q) w) := by
  obtain ⟨i0, hi, hz0, hz1, hz2⟩ := info_parts info_u8
  obtain ⟨B0, hB0⟩ : ∃ B0, B0 = w.heap.size := ⟨_, rfl⟩
  have hBW : Below w.heap.size w ((w.alloc (.cells #[.slice A1 n1 c1, .slice A2 n2 c2] 30)).alloc (.cells #[.slice none 0 0, .slice none 0 0] 30)) := ((Below.refl _ w).alloc (Nat.le_refl _) _).alloc (by simp) _
  have hK1 := (Blk.new w 30 #[.slice A1 n1 c1, .slice A2 n2 c2]).alloc (.cells #[.slice none 0 0, .slice none 0 0] 30)
  have hK2 := Blk.new (w.alloc (.cells #[.slice A1 n1 c1, .slice A2 n2 c2] 30)) 30 #[.slice none 0 0, .slice none 0 0]
  rw [show (w.alloc (.cells #[.slice A1 n1 c1, .slice A2 n2 c2] 30)).heap.size = w.heap.size + 1 by simp] at hK2
  have r1 := (h1.alloc (.cells #[.slice A1 n1 c1, .slice A2 n2 c2] 30)).alloc (.cells #[.slice none 0 0, .slice none 0 0] 30)
  have r2 := (h2.alloc (.cells #[.slice A1 n1 c1, .slice A2 n2 c2] 30)).alloc (.cells #[.slice none 0 0, .slice none 0 0] 30)
  replace hBW := Lib.hid hBW
  replace hK1 := Lib.hid hK1
  replace hK2 := Lib.hid hK2
  replace r1 := Lib.hid r1
  replace r2 := Lib.hid r2
  obtain ⟨m, hm⟩ : ∃ m, m = rootM Q := ⟨_, rfl⟩
  obtain ⟨s1, s2, -, -⟩ := rootM_spec hQ
  rw [← hm] at s1 s2
  replace hm := Lib.hid hm
  clear h1 h2
  go_enter Tryz.func34, Tryz.ntmps34
  go_wp2_with fail
  refine (root_any A2 n2 c2 Q _ r2.out hQ (by omega)).mono ?_
  rintro en v1 ⟨⟨c', rfl, hc', hc9⟩, nd, rfl⟩
  rw [← hm.out]
  rw [← hm.out] at hc'
  have t2 := Rd.take r2.out s2 hc' hc9
  go_wp2_with fail
  refine (clone_any A2 m c' (Q.take m) _ (Rd.drewN t2 nd) (by rw [List.length_take]; omega)).mono ?_
  rintro en v2 ⟨vq, rfl, ho, hb⟩
  have hq0 : (Q.take m) = rowL P Q P.length m := by rw [hm.out]; exact root_rowL hQ
  rw [hq0] at ho
  have hbA := hBW.out.trans ((below_drewN (Below.refl _ _) nd).trans hb |>.mono (by simp; omega))
  have K1 := Blk.below (Blk.drewN hK1.out nd) hb
  have K2 := Blk.below (Blk.drewN hK2.out nd) hb
  have q1 := Rd.below (Rd.drewN r1.out nd) hb
  have ho' : v2.ownsRow (w.heap.size + 2) 5 1 vq m (ivs .u8 (rowL P Q P.length m)) := own_le ho (by simp)
  have a0 : v2.cell? ⟨w.heap.size, 0, none⟩ = some (.slice A1 n1 c1) := K1.cell 0
  have hsz : w.heap.size + 2 ≤ v2.heap.size := by have := K2.lt; omega
  replace hbA := Lib.hid hbA
  replace K2 := Lib.hid K2
  replace q1 := Lib.hid q1
  replace ho' := Lib.hid ho'
  replace hsz := Lib.hid hsz
  have hN := Lib.hid (rd_cells q1.out).1
  clear hb ho K1 t2 hBW hK1 hK2 r1 r2 hc' hc9
  go_wp2_with fail
  refine (clone_any A1 n1 c1 P _ q1.out (by omega)).mono ?_
  rintro en v3 ⟨vp, rfl, hp, hb⟩
  have hbB := Lib.hid (hbA.out.trans (hb.mono hbA.out.size))
  have K3 := Lib.hid (Blk.below K2.out hb)
  have ho3 := Lib.hid (own_below ho'.out hb)
  have hsz3 := Lib.hid (Nat.le_trans hsz.out hb.size)
  have hp3 := Lib.hid ((Pf.of_own hp).le hsz.out)
  clear hb hp K2 q1 ho' hbA a0 hsz
  go_wp2_with fail
  have hown1 : lowN P Q m P.length = lowN P Q m n1 := by rw [← hN.out]
  go_loopw [3, 4, 5] (fun qv pv _ wr => ∃ n : Nat, n ≤ n1 ∧ Pf wr (w.heap.size + 2) pv (P.take n) ∧ wr.ownsRow (w.heap.size + 2) 5 1 qv m (ivs .u8 (rowL P Q n m)) ∧ lowN P Q m P.length = lowN P Q m n ∧ Blk wr (w.heap.size + 1) 30 #[.slice none 0 0, .slice none 0 0] ∧ Below w.heap.size w wr) (fun _ pv _ _ => lenV pv)
  case atStart => exact ⟨n1, Nat.le_refl _, by rw [hN.out, List.take_length]; exact hp3.out, by rw [hN.out]; exact ho3.out, hown1, K3.out, hbB.out⟩
  case round =>
    obtain ⟨n, hn1, hp, ho, hlow, K4, hB4⟩ := hrel
    obtain ⟨Ap, cp, rfl, hcp, hcp9⟩ := hp.form
    have hlen : (P.take n).length = n := by rw [List.length_take]; have := hN.out; omega
    rw [hlen] at hp hcp ⊢
    obtain ⟨Aq, cq, rfl⟩ : ∃ g cap, u3 = .slice (some ⟨g, 0, none⟩) m cap := by
      rcases own_forms ho with ⟨-, h⟩ | h
      · omega
      · exact h
    have hcq := (rd_cells (own_rdn ho)).2.1
    rw [rowL_len] at hcq
    have hcqm := (rd_cells (own_rdn ho)).2.2.1
    replace hp := Lib.hid hp
    replace ho := Lib.hid ho
    replace hlow := Lib.hid hlow
    replace K4 := Lib.hid K4
    replace hB4 := Lib.hid hB4
    replace hlen := Lib.hid hlen
    by_cases h0 : n = 0
    · subst h0
      have hPf : Hid (lowP P Q = P.take 0 ∧ lowQ P Q = rowL P Q 0 m) := Lib.hid ⟨by rw [lowP, ← hm.out, hlow.out]; rfl, by rw [lowQ, ← hm.out, hlow.out]; rfl⟩
      go_wp2_with fail
      go_quiet (fail)
      go_wp2_with fail
      refine (clip_any Ap 0 cp _ hcp).mono ?_
      rintro en v4 ⟨rfl, rfl⟩
      go_wp2_with fail
      refine (clip_any (some ⟨Aq, 0, none⟩) m cq _ hcq).mono ?_
      rintro en v5 ⟨rfl, rfl⟩
      have f0 : (wr.drewN nq).frozen? ⟨w.heap.size + 1, 0, none⟩ = false := Blk.frozen (Blk.drewN K4.out nq) 0
      have f1 : (wr.drewN nq).frozen? ⟨w.heap.size + 1, 1, none⟩ = false := Blk.frozen (Blk.drewN K4.out nq) 1
      have e0 : (wr.drewN nq).cell? ⟨w.heap.size + 1, 0, none⟩ = some (.slice none 0 0) := (Blk.drewN K4.out nq).cell 0
      have e1 : (wr.drewN nq).cell? ⟨w.heap.size + 1, 1, none⟩ = some (.slice none 0 0) := (Blk.drewN K4.out nq).cell 1
      go_wp2_with fail
      have KW : Blk (((wr.drewN nq).setCell ⟨w.heap.size + 1, 0, none⟩ (.slice Ap 0 0)).setCell ⟨w.heap.size + 1, 1, none⟩ (.slice (some ⟨Aq, 0, none⟩) m m)) (w.heap.size + 1) 30 #[.slice Ap 0 0, .slice (some ⟨Aq, 0, none⟩) m m] := (Blk.set_ (Blk.set_ (Blk.drewN K4.out nq) 0 _) 1 _)
      have w0 := KW.cell 0
      have w1 := KW.cell 1
      have hfar : ∀ b, w.heap.size + 2 ≤ b → b < wr.heap.size → (((wr.drewN nq).setCell ⟨w.heap.size + 1, 0, none⟩ (.slice Ap 0 0)).setCell ⟨w.heap.size + 1, 1, none⟩ (.slice (some ⟨Aq, 0, none⟩) m m)).heap[b]? = wr.heap[b]? := fun b hg _ => (Below.heap_setCell _ _ _ _ (by simp; omega)).trans (Below.heap_setCell _ _ _ _ (by simp; omega))
      have hPp := (Pf.take hp.out (k := 0) (by rw [hlen.out]; exact Nat.le_refl _) (c' := 0) (Nat.le_refl _) (by have := hcp9; omega)).keep hfar
      have hPq := (Pf.take (Pf.of_own ho.out) (k := m) (by rw [rowL_len]; exact Nat.le_refl _) (c' := m) (Nat.le_refl _) (by have := hcqm; omega)).keep hfar
      rw [List.take_take, Nat.min_self] at hPp
      rw [rowL_take (Nat.le_refl _)] at hPq
      have hBB := ((below_drewN hB4.out nq).setCell (p := ⟨w.heap.size + 1, 0, none⟩) (by simp) (.slice Ap 0 0)).setCell (p := ⟨w.heap.size + 1, 1, none⟩) (by simp) (.slice (some ⟨Aq, 0, none⟩) m m)
      refine bodyPost_ret (v := .agg #[.slice Ap 0 0, .slice (some ⟨Aq, 0, none⟩) m m]) (by simp [results, Tryz.results34, go_sem, w0, w1]) rfl ⟨_, _, rfl, ⟨by rw [hPf.out.1]; exact hPp.le (by omega), Ap, by rw [hPf.out.1, hlen.out]⟩, ⟨by rw [hPf.out.2]; exact hPq.le (by omega), some ⟨Aq, 0, none⟩, by rw [hPf.out.2, rowL_len]⟩, hBB⟩
    · obtain ⟨n, rfl⟩ : ∃ k, n = k + 1 := ⟨n - 1, by omega⟩
      have hnI : (0 : Int) < ((n + 1 : Nat) : Int) := by omega
      obtain ⟨x, hx⟩ : ∃ x, x = rowAt P Q n := ⟨_, rfl⟩
      obtain ⟨y, hy⟩ : ∃ y, y = rowAt P Q (n + m) := ⟨_, rfl⟩
      have hnl : n < P.length := by have := hN.out; omega
      have hex : (P.take (n + 1))[n]? = some x := by rw [List.getElem?_take_of_lt (by omega), hx, rowAt_pre hnl]
      have hey : (rowL P Q (n + 1) m)[m - 1]? = some y := by rw [rowL_get (by omega), hy]; congr 2; omega
      obtain ⟨g, cur, rfl, hgB, hgh, hgc⟩ := hp.out.open_ (fun e => by have := hlen.out; rw [e] at this; simp at this)
      have cx : wr.cell? ⟨g, n, none⟩ = some (.int .u8 (x : Int)) := hgc n x hex
      have cy : wr.cell? ⟨Aq, m - 1, none⟩ = some (.int .u8 (y : Int)) := by
        obtain ⟨g', off, e1, e2, e3⟩ := (rd_cells (own_rdn ho.out)).2.2.2 (fun e => by rw [e] at hey; simp at hey)
        injection e1 with e1
        injection e1 with e1 e4
        subst e1 e4
        have := e3 (m - 1) y hey
        rwa [Nat.zero_add] at this
      have hmI : (0 : Int) ≤ ((m : Int) - 1) := by omega
      obtain ⟨m1, hm1⟩ : ∃ m1, m = m1 + 1 := ⟨m - 1, by omega⟩
      subst hm1
      rw [Nat.add_sub_cancel] at cy
      clear hgc hex hey
      replace hx := Lib.hid hx
      replace hy := Lib.hid hy
      by_cases hxy : x = y
      · have hcut : Hid (lowN P Q (m1 + 1) P.length = lowN P Q (m1 + 1) n) := Lib.hid (by rw [hlow.out]; exact lowN_step (by rw [← hx.out, hxy, hy.out]))
        have hrow : Hid (rowL P Q n (m1 + 1) = x :: (rowL P Q (n + 1) (m1 + 1)).take m1) := Lib.hid (by rw [rowL_cons, rowL_take (by omega), ← hx.out])
        have hpt : Hid (Pf wr (w.heap.size + 2) (.slice (some ⟨g, 0, none⟩) n cp) (P.take n)) := Lib.hid (by
          have := Pf.take hp.out (k := n) (c' := cp) (by rw [hlen.out]; omega) (by omega) hcp9
          rwa [List.take_take, Nat.min_eq_left (by omega)] at this)
        subst hxy
        go_wp2_with fail
        go_quiet (fail)
        obtain ⟨wo, hwo⟩ : ∃ wo : World, wo = wr.drewN nq := ⟨_, rfl⟩
        have hs0 : wo.heap.size = wr.heap.size := by rw [hwo]; rfl
        have hrd := Lib.hid (Rd.take (own_rdn (show wo.ownsRow (w.heap.size + 2) 5 1 (.slice (some ⟨Aq, 0, none⟩) (m1 + 1) cq) (m1 + 1) (ivs .u8 (rowL P Q (n + 1) (m1 + 1))) by rw [hwo]; exact ho.out)) (n := m1) (by rw [rowL_len]; omega) (c' := cq) (by omega) hcqm)
        have hp0 := Lib.hid (show Pf wo (w.heap.size + 2) (.slice (some ⟨g, 0, none⟩) n cp) (P.take n) by rw [hwo]; exact hpt.out)
        have hK0 := Lib.hid (show Blk wo (w.heap.size + 1) 30 #[.slice none 0 0, .slice none 0 0] by rw [hwo]; exact Blk.drewN K4.out nq)
        have hB0 := Lib.hid (show Below w.heap.size w wo by rw [hwo]; exact below_drewN hB4.out nq)
        have hgs : Hid (w.heap.size + 2 ≤ wo.heap.size) := Lib.hid (by have := K4.out.lt; rw [hs0]; omega)
        have cx0 : wo.cell? ⟨g, n, none⟩ = some (.int .u8 (x : Int)) := by rw [hwo]; exact cx
        rw [← hwo]
        clear hwo hs0 cx cy hp ho K4 hB4 hpt
        go_wp2_with (at_builtin; refine wpList_append_rd rfl _ _ 28 rfl .u8 (w.heap.size + 2) 5 5 i0 (.int .u8 0) 1 Tryz.underlying28 hi hz0 hz1 hz2 rfl _ 1 [.int .u8 (x : Int)] rfl (own_one wo 5 _ hgs.out) _ _ _ ((rowL P Q (n + 1) (m1 + 1)).take m1) rfl (hrd.out.alloc _) ?d1 ?d2 ?d3 ?_)
        case d1 => unfold maxLen; omega
        case d2 => omega
        case d3 => have := hgs.out; simp; omega
        intro va wa hoa hga
        have hoa2 : wa.ownsRow (w.heap.size + 2) 5 1 va (m1 + 1) (ivs .u8 (rowL P Q n (m1 + 1))) := by
          rw [Nat.add_comm 1 m1] at hoa
          rw [hrow.out]
          exact hoa
        have hpa : Pf wa (w.heap.size + 2) (.slice (some ⟨g, 0, none⟩) n cp) (P.take n) := hp0.out.keep (fun b hb1 hb2 => (hga.block b (by simp; omega) (fun e => by simp [Value.ownBlock] at e; omega)).trans (Below.heap_alloc wo _ b hb2))
        have hKa : Blk wa (w.heap.size + 1) 30 #[.slice none 0 0, .slice none 0 0] := Blk.grown (hK0.out.alloc _) hga (fun e => by
          have := hgs.out; simp [Value.ownBlock] at e; omega)
        have hBa : Below w.heap.size w wa := (hB0.out.alloc hB0.out.size _).grown hga (by have := hB0.out.size; simp; omega) (fun k hk => by have := hgs.out; simp [Value.ownBlock] at hk; omega)
        replace hoa2 := Lib.hid hoa2
        replace hpa := Lib.hid hpa
        replace hKa := Lib.hid hKa
        replace hBa := Lib.hid hBa
        clear hga hoa hrd hp0 hK0 hB0 cx0 hrow
        go_wp2_with fail
        go_roundw
        case rel => exact ⟨n, by omega, hpa.out, hoa2.out, hcut.out, hKa.out, hBa.out⟩
        case measure => simp [lenV]
      · have hPf : Hid (lowP P Q = P.take (n + 1) ∧ lowQ P Q = rowL P Q (n + 1) (m1 + 1)) := Lib.hid (by
          have e : lowN P Q (m1 + 1) P.length = n + 1 := by rw [hlow.out]; exact lowN_stop (by rw [← hx.out, ← hy.out]; exact hxy)
          exact ⟨by rw [lowP, ← hm.out, e], by rw [lowQ, ← hm.out, e]⟩)
        have hxyI : ¬ (x : Int) = (y : Int) := by omega
        go_wp2_with fail
        go_quiet (fail)
        go_wp2_with fail
        refine (clip_any (some ⟨g, 0, none⟩) (n + 1) cp _ hcp).mono ?_
        rintro en v4 ⟨rfl, rfl⟩
        go_wp2_with fail
        refine (clip_any (some ⟨Aq, 0, none⟩) (m1 + 1) cq _ hcq).mono ?_
        rintro en v5 ⟨rfl, rfl⟩
        have f0 : (wr.drewN nq).frozen? ⟨w.heap.size + 1, 0, none⟩ = false := Blk.frozen (Blk.drewN K4.out nq) 0
        have f1 : (wr.drewN nq).frozen? ⟨w.heap.size + 1, 1, none⟩ = false := Blk.frozen (Blk.drewN K4.out nq) 1
        have e0 : (wr.drewN nq).cell? ⟨w.heap.size + 1, 0, none⟩ = some (.slice none 0 0) := (Blk.drewN K4.out nq).cell 0
        have e1 : (wr.drewN nq).cell? ⟨w.heap.size + 1, 1, none⟩ = some (.slice none 0 0) := (Blk.drewN K4.out nq).cell 1
        go_wp2_with fail
        have KW : Blk (((wr.drewN nq).setCell ⟨w.heap.size + 1, 0, none⟩ (.slice (some ⟨g, 0, none⟩) (n + 1) (n + 1))).setCell ⟨w.heap.size + 1, 1, none⟩ (.slice (some ⟨Aq, 0, none⟩) (m1 + 1) (m1 + 1))) (w.heap.size + 1) 30 #[.slice (some ⟨g, 0, none⟩) (n + 1) (n + 1), .slice (some ⟨Aq, 0, none⟩) (m1 + 1) (m1 + 1)] := (Blk.set_ (Blk.set_ (Blk.drewN K4.out nq) 0 _) 1 _)
        have w0 := KW.cell 0
        have w1 := KW.cell 1
        have hfar : ∀ b, w.heap.size + 2 ≤ b → b < wr.heap.size → (((wr.drewN nq).setCell ⟨w.heap.size + 1, 0, none⟩ (.slice (some ⟨g, 0, none⟩) (n + 1) (n + 1))).setCell ⟨w.heap.size + 1, 1, none⟩ (.slice (some ⟨Aq, 0, none⟩) (m1 + 1) (m1 + 1))).heap[b]? = wr.heap[b]? := fun b hg _ => (Below.heap_setCell _ _ _ _ (by simp; omega)).trans (Below.heap_setCell _ _ _ _ (by simp; omega))
        have hPp := (Pf.take hp.out (k := n + 1) (by rw [hlen.out]; exact Nat.le_refl _) (c' := n + 1) (Nat.le_refl _) (by have := hcp9; omega)).keep hfar
        have hPq := (Pf.take (Pf.of_own ho.out) (k := m1 + 1) (by rw [rowL_len]; exact Nat.le_refl _) (c' := m1 + 1) (Nat.le_refl _) (by have := hcqm; omega)).keep hfar
        rw [List.take_take, Nat.min_self] at hPp
        rw [rowL_take (Nat.le_refl _)] at hPq
        have hBB := ((below_drewN hB4.out nq).setCell (p := ⟨w.heap.size + 1, 0, none⟩) (by simp) (.slice (some ⟨g, 0, none⟩) (n + 1) (n + 1))).setCell (p := ⟨w.heap.size + 1, 1, none⟩) (by simp) (.slice (some ⟨Aq, 0, none⟩) (m1 + 1) (m1 + 1))
        refine bodyPost_ret (v := .agg #[.slice (some ⟨g, 0, none⟩) (n + 1) (n + 1), .slice (some ⟨Aq, 0, none⟩) (m1 + 1) (m1 + 1)]) (by simp [results, Tryz.results34, go_sem, w0, w1]) rfl ⟨_, _, rfl, ⟨by rw [hPf.out.1]; exact hPp.le (by omega), some ⟨g, 0, none⟩, by rw [hPf.out.1, hlen.out]⟩, ⟨by rw [hPf.out.2]; exact hPq.le (by omega), some ⟨Aq, 0, none⟩, by rw [hPf.out.2, rowL_len]⟩, hBB⟩
end Go.Proofs.YtbddlbhanpjdnaaGreatDoor

namespace Go.Proofs.YtbddlbhanpjdnaaGreatDoor
open Go.RowKit Go.Sort

set_option maxRecDepth 100000 in
set_option maxHeartbeats 1000000 in
/-- itin.at -/
theorem iat_any {T1 T2 : TypeId} (A1 A2 : Option Addr) (n1 c1 n2 c2 n : Nat) (P Q : List Nat) (w : World) (h1 : Rd .u8 T1 w (.slice A1 n1 c1) P) (h2 : Rd .u8 T2 w (.slice A2 n2 c2) Q)
    (hQ : 0 < Q.length) (hP9 : P.length ≤ 1099511627776) (hQ9 : Q.length ≤ 1099511627776) (hn : n ≤ 9007199254740992) :
    Calls Tryz.prog 44 #[.agg #[.slice A1 n1 c1, .slice A2 n2 c2], .int .i64 (n : Int)] w (RetVal (.int .u8 ((rowAt P Q n : Nat) : Int)) w) := by
  obtain ⟨x, hx⟩ : ∃ x, x = rowAt P Q n := ⟨_, rfl⟩
  rw [← hx]
  obtain ⟨rfl, hc1, hc1m, hcell1⟩ := rd_cells h1
  obtain ⟨rfl, hc2, hc2m, hcell2⟩ := rd_cells h2
  obtain ⟨a, ha⟩ : ∃ a, a = P.length := ⟨_, rfl⟩
  obtain ⟨b, hb⟩ : ∃ b, b = Q.length := ⟨_, rfl⟩
  have hBW : Below w.heap.size w (w.alloc (.cells #[.slice A1 a c1, .slice A2 b c2] 30)) := (Below.refl _ w).alloc (Nat.le_refl _) _
  replace hBW := Lib.hid hBW
  by_cases h0 : n < P.length
  · obtain ⟨g, off, rfl, hg, hcell⟩ := hcell1 (fun e => by rw [e] at h0; exact absurd h0 (by simp))
    have hcx : (w.alloc (.cells #[.slice (some ⟨g, off, none⟩) a c1, .slice A2 b c2] 30)).cell? ⟨g, off + n, none⟩ = some (.int .u8 (x : Int)) := by
      have e := hcell n x (by rw [hx]; exact rowAt_pre h0)
      exact (Lib.cell?_alloc_some _ e)
    rw [← ha] at h0 hc1 hP9 ⊢
    rw [← hb] at hc2 hQ hQ9 ⊢
    have h0I : (n : Int) < (a : Int) := by omega
    replace hx := Lib.hid hx
    clear hcell1 hcell2 hcell h1 h2 ha hb
    go_enter Tryz.func44, Tryz.ntmps44
    go_wp2_with fail
    go_ret
    exact ⟨rfl, hBW.out⟩
  · obtain ⟨g, off, rfl, hg, hcell⟩ := hcell2 (fun e => by rw [e] at hQ; exact absurd hQ (by simp))
    obtain ⟨j, hj⟩ : ∃ j, j = (n - P.length) % Q.length := ⟨_, rfl⟩
    obtain ⟨k, hk⟩ : ∃ k, k = n - P.length := ⟨_, rfl⟩
    have hjb : j < Q.length := by rw [hj]; exact Nat.mod_lt _ hQ
    have hcx : (w.alloc (.cells #[.slice A1 a c1, .slice (some ⟨g, off, none⟩) b c2] 30)).cell? ⟨g, off + j, none⟩ = some (.int .u8 (x : Int)) := by
      have e := hcell j x (by rw [hx, hj]; exact rowAt_per (by omega) hQ)
      exact (Lib.cell?_alloc_some _ e)
    rw [← hk] at hj
    have hji : (k : Int).tmod (b : Int) = (j : Int) := by rw [hj, hb]; exact tmod_nat _ _
    rw [← ha] at h0 hc1 hP9 hk ⊢
    rw [← hb] at hc2 hQ hQ9 hjb ⊢
    have h0I : ¬ (n : Int) < (a : Int) := by omega
    have hki : (n : Int) - (a : Int) = (k : Int) := by omega
    have hb0 : ¬ (b : Int) = 0 := by omega
    have hjI : (j : Int) < (b : Int) := by omega
    replace hx := Lib.hid hx
    replace hj := Lib.hid hj
    clear hcell1 hcell2 hcell h1 h2 ha hb hk
    go_enter Tryz.func44, Tryz.ntmps44
    go_wp2_with fail
    go_quiet (fail)
    go_wp2_with fail
    go_ret
    exact ⟨rfl, below_drewN hBW.out _⟩

set_option maxRecDepth 100000 in
/-- What Check asks of a symbol. -/
theorem bad_any (x : Nat) (w : World) (hx : x < 256) :
    Calls Tryz.prog 45 #[.int .u8 (x : Int)] w fun e w' => e = .returned (.bool (!symB x)) ∧ w' = w := by
  obtain ⟨b, hb⟩ : ∃ b, b = !symB x := ⟨_, rfl⟩
  rw [← hb]
  replace hb := Lib.hid hb
  by_cases h1 : x < 64
  · have hv : b = false := by rw [hb.out]; simp [symB, h1]
    subst hv
    have h1I : ¬ (64 : Int) ≤ (x : Int) := by omega
    go_enter Tryz.func45, Tryz.ntmps45
    go_wp2_with fail
    go_ret
    exact ⟨rfl, rfl⟩
  · have h1I : (64 : Int) ≤ (x : Int) := by omega
    by_cases h2 : x = 255
    · subst h2
      have hv : b = false := by rw [hb.out]; simp [symB]
      subst hv
      go_enter Tryz.func45, Tryz.ntmps45
      go_wp2_with fail
      go_ret
      exact ⟨rfl, rfl⟩
    · have hv : b = true := by rw [hb.out]; simp [symB, h1, h2]
      subst hv
      have h2I : ¬ (x : Int) = 255 := by omega
      have e9 : ((x : Int) != 255) = true := by simp; omega
      go_enter Tryz.func45, Tryz.ntmps45
      go_wp2_with fail
      go_ret
      exact ⟨by simp, rfl⟩

set_option maxRecDepth 100000 in
set_option maxHeartbeats 1000000 in
/-- slices.IndexFunc with Check's question. -/
theorem indexBad_any {T : TypeId} (A : Option Addr) (n c : Nat) (l : List Nat) (w : World) (h : Rd .u8 T w (.slice A n c) l) (hs : ∀ x, x ∈ l → x < 256) (hl : l.length ≤ 140737488355328) :
    Calls Tryz.prog 68 #[.slice A n c, .func (.func 45) #[] #[]] w fun e w' => (∃ i : Int, e = .returned (.int .i64 i) ∧ decide (0 ≤ i) = !(l.all symB)) ∧ w' = w := by
  obtain ⟨rfl, hc1, hc1m, hcell⟩ := rd_cells h
  obtain ⟨L, hL⟩ : ∃ L, L = l.length := ⟨_, rfl⟩
  rw [← hL] at hl hc1 ⊢
  replace hcell := Lib.hid hcell
  replace hs := Lib.hid hs
  replace hL := Lib.hid hL
  clear h
  go_enter Tryz.func68, Tryz.ntmps68
  go_wp2_with fail
  go_loopw [5, 8] (fun _ iv wr => ∃ i : Nat, iv = .int .i64 (i : Int) ∧ i ≤ L ∧ (l.take i).all symB = true ∧ wr = w) (fun _ iv _ => L - (intOf iv).toNat)
  case atStart => exact ⟨0, rfl, Nat.zero_le _, rfl, rfl⟩
  case round =>
    obtain ⟨i, rfl, hi, hok, rfl⟩ := hrel
    replace hok := Lib.hid hok
    by_cases h0 : i < L
    · have h0I : (i : Int) < (L : Int) := by omega
      have hil : i < l.length := by rw [← hL.out]; exact h0
      obtain ⟨x, hx⟩ : ∃ x, l[i]? = some x := ⟨_, List.getElem?_eq_getElem hil⟩
      obtain ⟨g, off, rfl, hg, hc⟩ := hcell.out (fun e => by rw [e] at hil; exact absurd hil (by simp))
      have hcx := hc i x hx
      have hx9 := hs.out x (List.mem_of_getElem? hx)
      have htk : (l.take (i + 1)).all symB = symB x := by
        have e : l.take (i + 1) = l.take i ++ [x] := by
          rw [List.take_succ_eq_append_getElem hil]
          rw [List.getElem?_eq_getElem hil] at hx
          rw [Option.some.inj hx]
        rw [e, List.all_append, hok.out]
        simp
      replace htk := Lib.hid htk
      replace hx := Lib.hid hx
      clear hc hg
      go_wp2_with fail
      refine (bad_any x _ hx9).mono ?_
      rintro en w1 ⟨rfl, rfl⟩
      cases hb : symB x
      · have hv : Hid (l.all symB = false) := Lib.hid (by
          cases h : l.all symB
          · rfl
          · have := List.all_eq_true.1 h x (List.mem_of_getElem? hx.out)
            rw [hb] at this; cases this)
        go_wp2_with fail
        go_ret
        exact ⟨⟨_, rfl, by rw [hv.out]; simp⟩, rfl⟩
      · rw [hb] at htk
        go_wp2_with fail
        go_roundw
        case rel => exact ⟨i + 1, by go_num, by omega, htk.out, by first | rfl | trivial⟩
        case measure => simp [intOf]; omega
    · obtain rfl : i = L := by omega
      have h0I : ¬ (i : Int) < (i : Int) := by omega
      have hv : Hid (l.all symB = true) := Lib.hid (by have := hok.out; rwa [hL.out, List.take_length] at this)
      go_wp2_with fail
      go_ret
      exact ⟨⟨-1, rfl, by rw [hv.out]; simp⟩, rfl⟩

set_option maxRecDepth 100000 in
/-- slices.ContainsFunc with Check's question. -/
theorem containsBad_any {T : TypeId} (A : Option Addr) (n c : Nat) (l : List Nat) (w : World) (h : Rd .u8 T w (.slice A n c) l) (hs : ∀ x, x ∈ l → x < 256) (hl : l.length ≤ 140737488355328) :
    Calls Tryz.prog 46 #[.slice A n c, .func (.func 45) #[] #[]] w fun e w' => e = .returned (.bool (!(l.all symB))) ∧ w' = w := by
  replace h := Lib.hid h
  replace hs := Lib.hid hs
  go_enter Tryz.func46, Tryz.ntmps46
  go_wp2_with fail
  refine (indexBad_any A n c l _ h.out hs.out hl).mono ?_
  rintro en w1 ⟨⟨i, rfl, hi⟩, rfl⟩
  replace hi := Lib.hid hi
  go_wp2_with fail
  go_ret
  exact ⟨by rw [← hi.out]; rfl, rfl⟩

/-- What Check tells. -/
def chkE (P Q : List Nat) : Int := if mayI P Q then 0 else 220
theorem mayI_no {P Q : List Nat} (h : mayI P Q = false) : chkE P Q = 220 := by simp [chkE, h]
theorem mayI_yes {P Q : List Nat} (h : mayI P Q = true) : chkE P Q = 0 := by simp [chkE, h]

set_option maxRecDepth 100000 in
set_option maxHeartbeats 1000000 in
/-- itin.Check -/
theorem iCheck_any {T1 T2 : TypeId} (A1 A2 : Option Addr) (n1 c1 n2 c2 : Nat) (P Q : List Nat) (w : World) (h1 : Rd .u8 T1 w (.slice A1 n1 c1) P) (h2 : Rd .u8 T2 w (.slice A2 n2 c2) Q)
    (s1 : ∀ x, x ∈ P → x < 256) (s2 : ∀ x, x ∈ Q → x < 256) (hP9 : P.length ≤ 140737488351232) (hQ9 : Q.length ≤ 140737488351232) :
    Calls Tryz.prog 21 #[.agg #[.slice A1 n1 c1, .slice A2 n2 c2]] w (RetVal (.int .i64 (chkE P Q)) w) := by
  obtain ⟨r, hr⟩ : ∃ r, r = chkE P Q := ⟨_, rfl⟩
  rw [← hr]
  obtain rfl := (rd_cells h1).1
  obtain rfl := (rd_cells h2).1
  obtain ⟨a, ha⟩ : ∃ a, a = P.length := ⟨_, rfl⟩
  obtain ⟨b, hb⟩ : ∃ b, b = Q.length := ⟨_, rfl⟩
  rw [← ha] at h1 hP9 ⊢
  rw [← hb] at h2 hQ9 ⊢
  have hBW : Below w.heap.size w (w.alloc (.cells #[.slice A1 a c1, .slice A2 b c2] 30)) := (Below.refl _ w).alloc (Nat.le_refl _) _
  have hC1 := fun W h => containsBad_any A1 a c1 P W h s1 (by rw [← ha]; omega) (T := T1)
  have hC2 := fun W h => containsBad_any A2 b c2 Q W h s2 (by rw [← hb]; omega) (T := T2)
  have q1 := h1.alloc (.cells #[.slice A1 a c1, .slice A2 b c2] 30)
  have q2 := h2.alloc (.cells #[.slice A1 a c1, .slice A2 b c2] 30)
  have hno : b = 0 ∨ 4096 < a + b ∨ P.all symB = false ∨ Q.all symB = false → r = 220 := fun h => by
    rw [hr]
    refine mayI_no ?_
    cases hm : mayI P Q
    · rfl
    · simp only [mayI, Bool.and_eq_true, decide_eq_true_eq] at hm
      obtain ⟨⟨⟨m1, m2⟩, m3⟩, m4⟩ := hm
      have m5 := List.length_pos_iff.2 m1
      rw [← ha, ← hb] at m2
      rw [← hb] at m5
      rcases h with h | h | h | h
      · omega
      · omega
      · rw [h] at m3; cases m3
      · rw [h] at m4; cases m4
  have hyes : b ≠ 0 → a + b ≤ 4096 → P.all symB = true → Q.all symB = true → r = 0 := fun k1 k2 k3 k4 => by
    rw [hr]
    refine mayI_yes ?_
    have : Q ≠ [] := fun e => k1 (by rw [hb, e]; rfl)
    rw [mayI, ← ha, ← hb, k3, k4]
    simp [this, k2]
  obtain ⟨okP, hokP⟩ : ∃ o, o = P.all symB := ⟨_, rfl⟩
  obtain ⟨okQ, hokQ⟩ : ∃ o, o = Q.all symB := ⟨_, rfl⟩
  rw [← hokP] at hno hyes
  rw [← hokQ] at hno hyes
  simp only [← hokP] at hC1
  simp only [← hokQ] at hC2
  replace hno := Lib.hid hno
  replace hyes := Lib.hid hyes
  replace hC1 := Lib.hid hC1
  replace hC2 := Lib.hid hC2
  replace q1 := Lib.hid q1
  replace q2 := Lib.hid q2
  replace hBW := Lib.hid hBW
  clear hr h1 h2 s1 s2 ha hb hokP hokQ
  by_cases b0 : b = 0
  · obtain rfl := hno.out (.inl b0)
    subst b0
    go_enter Tryz.func21, Tryz.ntmps21
    go_wp2_with fail
    go_ret
    exact ⟨rfl, hBW.out⟩
  · have b0I : ¬ (b : Int) = 0 := by omega
    by_cases hm : 4096 < a + b
    · obtain rfl := hno.out (.inr (.inl hm))
      have hmI : (4096 : Int) < (a : Int) + (b : Int) := by omega
      go_enter Tryz.func21, Tryz.ntmps21
      go_wp2_with fail
      go_ret
      exact ⟨rfl, hBW.out⟩
    · have hmI : ¬ (4096 : Int) < (a : Int) + (b : Int) := by omega
      go_enter Tryz.func21, Tryz.ntmps21
      go_wp2_with fail
      refine (hC1.out _ q1.out).mono ?_
      rintro en w1 ⟨rfl, rfl⟩
      cases okP
      · obtain rfl := hno.out (.inr (.inr (.inl rfl)))
        go_wp2_with fail
        go_ret
        exact ⟨rfl, hBW.out⟩
      · go_wp2_with fail
        refine (hC2.out _ q2.out).mono ?_
        rintro en w1 ⟨rfl, rfl⟩
        cases okQ
        · obtain rfl := hno.out (.inr (.inr (.inr rfl)))
          go_wp2_with fail
          go_ret
          exact ⟨rfl, hBW.out⟩
        · obtain rfl := hyes.out b0 (by omega) (by simp) (by simp)
          go_wp2_with fail
          go_ret
          exact ⟨rfl, hBW.out⟩

/-- What rho tells: 0, if there is none. -/
def rhoF (P Q : List Nat) (n : Nat) : Nat → Nat → Nat
  | 0, _ => 0
  | f + 1, i => if rowAt P Q (i + n) ≠ rowAt P Q i then i + n + 1 else rhoF P Q n f (i + 1)
def rhoN (P Q : List Nat) (n : Nat) : Nat := rhoF P Q n (P.length + Q.length) 0

set_option maxRecDepth 100000 in
set_option maxHeartbeats 1000000 in
/-- itin.rho -/
theorem irho_any {T1 T2 : TypeId} (A1 A2 : Option Addr) (n1 c1 n2 c2 n : Nat) (P Q : List Nat) (w : World) (h1 : Rd .u8 T1 w (.slice A1 n1 c1) P) (h2 : Rd .u8 T2 w (.slice A2 n2 c2) Q)
    (hQ : 0 < Q.length) (hP9 : P.length + Q.length ≤ 4096) (hn : n ≤ 1000000) :
    Calls Tryz.prog 67 #[.agg #[.slice A1 n1 c1, .slice A2 n2 c2], .int .i64 (n : Int)] w (RetVal (.int .i64 ((rhoN P Q n : Nat) : Int)) w) := by
  obtain ⟨r, hr⟩ : ∃ r, r = rhoN P Q n := ⟨_, rfl⟩
  rw [← hr]
  obtain rfl := (rd_cells h1).1
  obtain rfl := (rd_cells h2).1
  obtain ⟨a, ha⟩ : ∃ a, a = P.length := ⟨_, rfl⟩
  obtain ⟨b, hb⟩ : ∃ b, b = Q.length := ⟨_, rfl⟩
  have hat := fun (k : Nat) (hk : k ≤ 9007199254740992) W h1 h2 => iat_any (T1 := T1) (T2 := T2) A1 A2 P.length c1 Q.length c2 k P Q W h1 h2 hQ (by omega) (by omega) hk
  rw [rhoN, ← ha, ← hb] at hr
  rw [← ha, ← hb] at hat hP9
  rw [← ha] at h1 ⊢
  rw [← hb] at h2 hQ ⊢
  have hBW : Below w.heap.size w (w.alloc (.cells #[.slice A1 a c1, .slice A2 b c2] 30)) := (Below.refl _ w).alloc (Nat.le_refl _) _
  have q1 := h1.alloc (.cells #[.slice A1 a c1, .slice A2 b c2] 30)
  have q2 := h2.alloc (.cells #[.slice A1 a c1, .slice A2 b c2] 30)
  have hK := Blk.new w 30 #[.slice A1 a c1, .slice A2 b c2]
  replace q1 := Lib.hid q1
  replace q2 := Lib.hid q2
  replace hBW := Lib.hid hBW
  replace hK := Lib.hid hK
  replace hr := Lib.hid hr
  replace hat := Lib.hid hat
  clear h1 h2 ha hb
  have hab : (0 : Int) < (a : Int) + (b : Int) := by omega
  go_enter Tryz.func67, Tryz.ntmps67
  go_wp2_with fail
  go_loopw [5, 13] (fun _ iv wr => ∃ i : Nat, iv = .int .i64 (i : Int) ∧ i ≤ a + b ∧ r = rhoF P Q n (a + b - i) i ∧ Rd .u8 T1 wr (.slice A1 a c1) P ∧ Rd .u8 T2 wr (.slice A2 b c2) Q ∧ Blk wr w.heap.size 30 #[.slice A1 a c1, .slice A2 b c2] ∧ Below w.heap.size w wr) (fun _ iv _ => a + b - (intOf iv).toNat)
  case atStart => exact ⟨0, rfl, Nat.zero_le _, hr.out, q1.out, q2.out, hK.out, hBW.out⟩
  case round =>
    obtain ⟨i, rfl, hi, hri, p1, p2, pK, pB⟩ := hrel
    replace hri := Lib.hid hri
    by_cases h0 : i < a + b
    · have h0I : (i : Int) < (a : Int) + (b : Int) := by omega
      have hin : IntKind.i64.wrap ((i : Int) + (n : Int)) = ((i + n : Nat) : Int) := by rw [IntKind.wrap_i64]; push_cast; omega
      obtain ⟨x, hx⟩ : ∃ x, x = rowAt P Q (i + n) := ⟨_, rfl⟩
      obtain ⟨y, hy⟩ : ∃ y, y = rowAt P Q i := ⟨_, rfl⟩
      have m0 : ∀ d os, (grow (redrawn wr d) os).cell? ⟨w.heap.size, 0, none⟩ = some (.slice A1 a c1) := cell_regrown (Blk.cell pK 0)
      have m1 : ∀ d os, (grow (redrawn wr d) os).cell? ⟨w.heap.size, 1, none⟩ = some (.slice A2 b c2) := cell_regrown (Blk.cell pK 1)
      have cx : ∀ d os, Calls Tryz.prog 44 #[.agg #[.slice A1 a c1, .slice A2 b c2], .int .i64 (IntKind.i64.wrap ((i : Int) + (n : Int)))] (grow (redrawn wr d) os) fun e w'' => e = .returned (.int .u8 (x : Int)) ∧ ∃ p : Regrown, w'' = grow (redrawn wr p.d) p.os :=
        fun d os => Calls.regrown_of (by
          rw [hx, hin]
          have hb := below_regrown wr d os
          exact hat.out (i + n) (by omega) _ (p1.below hb) (p2.below hb))
      have cy : ∀ d os, Calls Tryz.prog 44 #[.agg #[.slice A1 a c1, .slice A2 b c2], .int .i64 (i : Int)] (grow (redrawn wr d) os) fun e w'' => e = .returned (.int .u8 (y : Int)) ∧ ∃ p : Regrown, w'' = grow (redrawn wr p.d) p.os :=
        fun d os => Calls.regrown_of (by
          rw [hy]
          have hb := below_regrown wr d os
          exact hat.out i (by omega) _ (p1.below hb) (p2.below hb))
      replace hx := Lib.hid hx
      replace hy := Lib.hid hy
      clear hin
      go_upto_region 4 with fail
      refine wp_region_quiet_below (by kernel_rfl) (by kernel_rfl) ?_
      iterate 4 (quiet_step (fail))
      quiet_step (exact cx _ _)
      iterate 2 (quiet_step (fail))
      quiet_step (exact cy _ _)
      iterate 1 (quiet_step (fail))
      refine wpQuiet_nil ?_
      intro q5 hw'
      have hb : Below wr.heap.size wr q5 := by
        obtain ⟨p, rfl⟩ := hw'
        exact below_regrown wr p.d p.os
      clear hw' cx cy m0 m1
      have k1 := Lib.hid (p1.below hb)
      have k2 := Lib.hid (p2.below hb)
      have kK := Lib.hid (Blk.below pK hb)
      have kB := Lib.hid (pB.trans (hb.mono pB.size))
      clear hb p1 p2 pK pB
      have hfu : a + b - i = (a + b - (i + 1)) + 1 := by omega
      by_cases hxy : x = y
      · have hri2 : Hid (r = rhoF P Q n (a + b - (i + 1)) (i + 1)) := Lib.hid (by rw [hri.out, hfu, rhoF, if_neg (by rw [← hx.out, ← hy.out]; simp [hxy])])
        subst hxy
        clear hri
        go_wp2_with fail
        go_roundw
        case rel => exact ⟨i + 1, by go_num, by omega, hri2.out, k1.out, k2.out, kK.out, kB.out⟩
        case measure => simp [intOf]; omega
      · have hri2 : Hid (r = i + n + 1) := Lib.hid (by rw [hri.out, hfu, rhoF, if_pos (by rw [← hx.out, ← hy.out]; exact hxy)])
        have hxyI : ¬ (x : Int) = (y : Int) := by omega
        clear hri
        go_wp2_with fail
        go_ret
        exact ⟨by rw [hri2.out]; push_cast; rfl, kB.out⟩
    · obtain rfl : i = a + b := by omega
      have hri2 : Hid (r = 0) := Lib.hid (by rw [hri.out, Nat.sub_self]; rfl)
      have h0I : ¬ ((a + b : Nat) : Int) < (a : Int) + (b : Int) := by omega
      replace pB := Lib.hid pB
      clear hri p1 p2 pK
      go_wp2_with fail
      go_ret
      exact ⟨by rw [hri2.out]; rfl, pB.out⟩
end Go.Proofs.YtbddlbhanpjdnaaGreatDoor
