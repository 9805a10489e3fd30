import Derived.Test.YtoaggmegmgdgbaaGreatItA
import Derived.Test.YtoaggmegmgdgbaaGreatBack
import Derived.WalkMore
import Derived.BigQuiet
namespace Go.Proofs.YtoaggmegmgdgbaaGreat
open Go.RowKit Go.Sort
theorem rd_cells {k : IntKind} {T : TypeId} {w : World} {A : Option Addr} {n c : Nat} {l : List Nat} (h : Rd k T w (.slice A n c) l) : n = l.length ∧ l.length ≤ c ∧ c ≤ maxLen ∧ (l ≠ [] → ∃ g off, A = some ⟨g, off, none⟩ ∧ g < w.heap.size ∧ ∀ (j x : Nat), l[j]? = some x → w.cell? ⟨g, off + j, none⟩ = some (Value.int k (x : Int))) := by
  obtain ⟨A', c', e, h1, h2, h3⟩ := h
  injection e with e1 e2 e3
  subst e1 e3
  refine ⟨e2, h1, h2, fun hn => ?_⟩
  obtain ⟨g, off, L, e, hr, hL⟩ := h3 hn
  exact ⟨g, off, e, hr.lt, fun j x hj => hr.cell (hL j x hj)⟩
set_option maxRecDepth 100000 in
set_option maxHeartbeats 2000000 in
theorem root_any {T : TypeId} (A : Option Addr) (L c : Nat) (l : List Nat) (w : World) (h : Rd .u8 T w (.slice A L c) l) (h0 : 0 < l.length) (hlen : l.length ≤ 140737488355328) :
    Calls Tryz.prog 149 #[.slice A L c] w fun e w' => (∃ c', e = .returned (.slice A (rootM l) c') ∧ rootM l ≤ c' ∧ c' ≤ maxLen) ∧ Dr w w' := by
  obtain ⟨rfl, hc1, hc2, hcell⟩ := rd_cells h
  obtain ⟨g, off, rfl, hg, hcell⟩ := hcell (fun e => by rw [e] at h0; exact absurd h0 (by simp))
  obtain ⟨L, hL⟩ : ∃ L, L = l.length := ⟨_, rfl⟩
  rw [← hL] at h0 hlen hc1 ⊢
  replace hcell := Lib.hid hcell
  replace hL := Lib.hid hL
  replace hc2 := Lib.hid hc2
  clear h hg
  go_enter Tryz.func149, Tryz.ntmps149
  go_wp2_with fail
  apply wp_scope_straight
  go_wp2_with fail
  apply wp_label
  go_wp2_with fail
  go_loopw [2, 3, 4] (fun _ nv _ wr => ∃ n : Nat, nv = .int .i64 (n : Int) ∧ 1 ≤ n ∧ n ≤ L ∧ (∀ k, 1 ≤ k → k < n → per l k = false) ∧ Dr w wr) (fun _ nv _ _ => L - (intOf nv).toNat)
  case atStart => exact ⟨1, rfl, Nat.le_refl _, h0, fun k h1 h2 => by omega, Dr.refl _⟩
  case round =>
    obtain ⟨n, rfl, hn1, hnL, hno, nd, rfl⟩ := hrel
    replace hno := Lib.hid hno
    by_cases h1 : n < L
    · have h1I : (n : Int) < (L : Int) := by omega
      obtain ⟨m, hm⟩ : ∃ m, m = L % n := ⟨_, rfl⟩
      have hmI : (L : Int).tmod (n : Int) = (m : Int) := by rw [hm]; exact tmod_nat L n
      have hn0 : ¬ (n : Int) = 0 := by omega
      have hmw : wrap64 (m : Int) = (m : Int) := by
        have : m < n := by rw [hm]; exact Nat.mod_lt _ (by omega)
        have := hlen
        unfold wrap64; omega
      by_cases hm0 : m = 0
      · have hper := per_step (q := l) hn1 (by rw [← hL.out, ← hm]; exact hm0)
        subst hm0
        replace hper := Lib.hid hper
        clear hm
        go_wp2_with fail
        go_loopw [4] (fun iv wq => ∃ i : Nat, iv = .int .i64 (i : Int) ∧ n ≤ i ∧ i ≤ L ∧ (∀ j, n ≤ j → j < i → l.getD j 0 = l.getD (j - n) 0) ∧ Dr (w.drewN nd) wq) (fun iv _ => L - (intOf iv).toNat)
        case atStart => exact ⟨n, rfl, Nat.le_refl _, Nat.le_of_lt h1, fun j j1 j2 => by omega, Dr.refl _⟩
        case round =>
          obtain ⟨i, rfl, hi1, hi2, hsame, nd2, rfl⟩ := hrel
          replace hsame := Lib.hid hsame
          by_cases h2 : i < L
          · have h2I : (i : Int) < (L : Int) := by omega
            have hnI : (n : Int) ≤ (i : Int) := by omega
            have e1 : l[i]? = some (l.getD i 0) := by
              have : i < l.length := by rw [← hL.out]; exact h2
              simp [List.getD, this]
            have e2 : l[i - n]? = some (l.getD (i - n) 0) := by
              have : i - n < l.length := by rw [← hL.out]; omega
              simp [List.getD, this]
            obtain ⟨x, hx⟩ : ∃ x, x = l.getD i 0 := ⟨_, rfl⟩
            obtain ⟨y, hy⟩ : ∃ y, y = l.getD (i - n) 0 := ⟨_, rfl⟩
            obtain ⟨t, ht⟩ : ∃ t, t = i - n := ⟨_, rfl⟩
            rw [← hx] at e1
            rw [← hy, ← ht] at e2
            have c1 : w.cell? ⟨g, off + i, none⟩ = some (.int .u8 (x : Int)) := hcell.out i x e1
            have c2 : w.cell? ⟨g, off + t, none⟩ = some (.int .u8 (y : Int)) := hcell.out t y e2
            have hti : (i : Int) - (n : Int) = (t : Int) := by omega
            have htL : (t : Int) < (L : Int) := by omega
            have ht0 : (0 : Int) ≤ (t : Int) := by omega
            replace hx := Lib.hid hx
            replace hy := Lib.hid hy
            replace ht := Lib.hid ht
            clear e1 e2
            by_cases hxy : x = y
            · subst hxy
              have hsame2 : Hid (∀ j, n ≤ j → j < i + 1 → l.getD j 0 = l.getD (j - n) 0) := Lib.hid (fun j j1 j2 => by
                by_cases e : j = i
                · subst e; rw [← hx.out, hy.out]
                · exact hsame.out j j1 (by omega))
              go_wp2_with fail
              go_quiet (fail)
              go_wp2_with fail
              go_roundw
              case rel => exact ⟨i + 1, by go_num, by omega, by omega, hsame2.out, ⟨nd2 + nq, by rw [World.drewN_drewN, Nat.add_assoc]⟩⟩
              case measure => simp [intOf]; omega
            · have hxyI : ¬ (x : Int) = (y : Int) := by omega
              have hno2 : Hid (∀ k, 1 ≤ k → k < n + 1 → per l k = false) := Lib.hid (fun k k1 k2 => by
                by_cases e : k = n
                · subst e
                  cases h : per l k
                  · rfl
                  · have := hper.out.1 h i hi1 (by rw [← hL.out]; exact h2)
                    rw [← hx.out, ← ht.out] at this
                    rw [ht.out, ← hy.out] at this
                    exact absurd this hxy
                · exact hno.out k k1 (by omega))
              go_wp2_with fail
              go_quiet (fail)
              go_wp2_with fail
              go_roundw
              case rel => exact ⟨n + 1, by go_num, by omega, by omega, hno2.out, ⟨nd + nd2 + nq, rfl⟩⟩
              case measure => simp [intOf]; omega
          · obtain rfl : i = L := by omega
            have h2I : ¬ (i : Int) < (i : Int) := by omega
            have hv : Hid (rootM l = n) := Lib.hid ((rootM_eq (by rw [← hL.out]; omega) hn1 (hper.out.2 (fun j j1 j2 => hsame.out j j1 (by rw [hL.out]; exact j2))) hno.out).symm)
            go_wp2_with fail
            go_ret
            exact ⟨⟨n, by rw [hv.out]; rfl, by rw [hv.out]; exact Nat.le_refl _, by have := hc2.out; omega⟩, ⟨nd + nd2, rfl⟩⟩
      · have hm0I : ¬ (m : Int) = 0 := by omega
        have hno2 : Hid (∀ k, 1 ≤ k → k < n + 1 → per l k = false) := Lib.hid (fun k k1 k2 => by
          by_cases e : k = n
          · subst e
            cases h : per l k
            · rfl
            · have := (per_iff.1 h).1
              rw [← hL.out, ← hm] at this
              exact absurd this hm0
          · exact hno.out k k1 (by omega))
        clear hm
        go_wp2_with fail
        go_roundw
        case rel => exact ⟨n + 1, by go_num, by omega, by omega, hno2.out, ⟨_, rfl⟩⟩
        case measure => simp [intOf]; omega
    · obtain rfl : n = L := by omega
      have h1I : ¬ (n : Int) < (n : Int) := by omega
      have hv : Hid (rootM l = n) := Lib.hid (by
        rw [hL.out]
        exact (rootM_eq (by rw [← hL.out]; exact h0) (by rw [← hL.out]; exact h0) (per_all l) (fun k k1 k2 => hno.out k k1 (by rw [hL.out]; exact k2))).symm)
      go_wp2_with fail
      go_ret
      exact ⟨⟨c, by rw [hv.out]; rfl, by rw [hv.out]; exact hc1, hc2.out⟩, ⟨_, rfl⟩⟩
set_option maxRecDepth 100000 in
theorem clip_any (A : Option Addr) (n c : Nat) (w : World) (h : n ≤ c) :
    Calls Tryz.prog 150 #[.slice A n c] w fun e w' => e = .returned (.slice A n n) ∧ w' = w := by
  go_enter Tryz.func150, Tryz.ntmps150
  go_wp2_with fail
  go_ret
  exact ⟨rfl, rfl⟩
def Pc (w : World) (B : Nat) (v : Value) (l : List Nat) : Prop := Pf w B v l ∧ ∃ A, v = .slice A l.length l.length
def RetPQ (P Q : List Nat) (w : World) (e : Ending) (w' : World) : Prop :=
  ∃ v1 v2, e = .returned (.agg #[v1, v2]) ∧ Pc w' w.heap.size v1 P ∧ Pc w' w.heap.size v2 Q ∧ Below w.heap.size w w'
theorem own_one (w : World) (T : TypeId) (x : Value) {B : Nat} (hB : B ≤ w.heap.size) : (w.alloc (.cells #[x] T)).ownsRow B T 1 (.slice (some ⟨w.heap.size, 0, none⟩) 1 1) 1 [x] :=
  ⟨rfl, .inr ⟨w.heap.size, 1, #[x], rfl, hB, heap_alloc_new w _, Nat.le_refl _, by unfold maxLen; omega, rfl, rfl⟩⟩
theorem lowN_step {p q : List Nat} {m n : Nat} (h : rowAt p q n = rowAt p q (n + m)) : lowN p q m (n + 1) = lowN p q m n := by simp [lowN, h]
theorem lowN_stop {p q : List Nat} {m n : Nat} (h : rowAt p q n ≠ rowAt p q (n + m)) : lowN p q m (n + 1) = n + 1 := by simp [lowN, h]
theorem rowL_take {p q : List Nat} {a k n : Nat} (h : n ≤ k) : (rowL p q a k).take n = rowL p q a n := by
  refine List.ext_getElem? fun i => ?_
  rcases Nat.lt_or_ge i n with hi | hi
  · rw [List.getElem?_take_of_lt hi, rowL_get (by omega), rowL_get hi]
  · rw [List.getElem?_eq_none (by rw [List.length_take, rowL_len]; omega), List.getElem?_eq_none (by rw [rowL_len]; exact hi)]
set_option maxRecDepth 100000 in
set_option maxHeartbeats 2000000 in
theorem lowest_row {T1 T2 : TypeId} (A1 A2 : Option Addr) (n1 c1 n2 c2 : Nat) (P Q : List Nat) (w : World) (h1 : Rd .u8 T1 w (.slice A1 n1 c1) P) (h2 : Rd .u8 T2 w (.slice A2 n2 c2) Q)
    (hQ : 0 < Q.length) (hP9 : P.length ≤ 1099511627776) (hQ9 : Q.length ≤ 1099511627776) :
    Calls Tryz.prog 103 #[.agg #[.slice A1 n1 c1, .slice A2 n2 c2]] w (RetPQ (lowP P Q) (lowQ P Q) w) := by
  obtain ⟨i0, hi, hz0, hz1, hz2⟩ := info_parts info_u8
  obtain ⟨B0, hB0⟩ : ∃ B0, B0 = w.heap.size := ⟨_, rfl⟩
  have hBW : Below w.heap.size w ((w.alloc (.cells #[.slice A1 n1 c1, .slice A2 n2 c2] 120)).alloc (.cells #[.slice none 0 0, .slice none 0 0] 120)) := ((Below.refl _ w).alloc (Nat.le_refl _) _).alloc (by simp) _
  have hK1 := (Blk.new w 120 #[.slice A1 n1 c1, .slice A2 n2 c2]).alloc (.cells #[.slice none 0 0, .slice none 0 0] 120)
  have hK2 := Blk.new (w.alloc (.cells #[.slice A1 n1 c1, .slice A2 n2 c2] 120)) 120 #[.slice none 0 0, .slice none 0 0]
  rw [show (w.alloc (.cells #[.slice A1 n1 c1, .slice A2 n2 c2] 120)).heap.size = w.heap.size + 1 by simp] at hK2
  have r1 := (h1.alloc (.cells #[.slice A1 n1 c1, .slice A2 n2 c2] 120)).alloc (.cells #[.slice none 0 0, .slice none 0 0] 120)
  have r2 := (h2.alloc (.cells #[.slice A1 n1 c1, .slice A2 n2 c2] 120)).alloc (.cells #[.slice none 0 0, .slice none 0 0] 120)
  replace hBW := Lib.hid hBW
  replace hK1 := Lib.hid hK1
  replace hK2 := Lib.hid hK2
  replace r1 := Lib.hid r1
  replace r2 := Lib.hid r2
  obtain ⟨m, hm⟩ : ∃ m, m = rootM Q := ⟨_, rfl⟩
  obtain ⟨s1, s2, -, -⟩ := rootM_spec hQ
  rw [← hm] at s1 s2
  replace hm := Lib.hid hm
  clear h1 h2
  go_enter Tryz.func103, Tryz.ntmps103
  go_wp2_with fail
  refine (root_any A2 n2 c2 Q _ r2.out hQ (by omega)).mono ?_
  rintro en v1 ⟨⟨c', rfl, hc', hc9⟩, nd, rfl⟩
  rw [← hm.out]
  rw [← hm.out] at hc'
  have t2 := Rd.take r2.out s2 hc' hc9
  go_wp2_with fail
  refine (clone_any A2 m c' (Q.take m) _ (Rd.drewN t2 nd) (by rw [List.length_take]; omega)).mono ?_
  rintro en v2 ⟨vq, rfl, ho, hb⟩
  have hq0 : (Q.take m) = rowL P Q P.length m := by rw [hm.out]; exact root_rowL hQ
  rw [hq0] at ho
  have hbA := hBW.out.trans ((below_drewN (Below.refl _ _) nd).trans hb |>.mono (by simp; omega))
  have K1 := Blk.below (Blk.drewN hK1.out nd) hb
  have K2 := Blk.below (Blk.drewN hK2.out nd) hb
  have q1 := Rd.below (Rd.drewN r1.out nd) hb
  have ho' : v2.ownsRow (w.heap.size + 2) 5 1 vq m (ivs .u8 (rowL P Q P.length m)) := own_le ho (by simp)
  have a0 : v2.cell? ⟨w.heap.size, 0, none⟩ = some (.slice A1 n1 c1) := K1.cell 0
  have hsz : w.heap.size + 2 ≤ v2.heap.size := by have := K2.lt; omega
  replace hbA := Lib.hid hbA
  replace K2 := Lib.hid K2
  replace q1 := Lib.hid q1
  replace ho' := Lib.hid ho'
  replace hsz := Lib.hid hsz
  have hN := Lib.hid (rd_cells q1.out).1
  clear hb ho K1 t2 hBW hK1 hK2 r1 r2 hc' hc9
  go_wp2_with fail
  refine (clone_any A1 n1 c1 P _ q1.out (by omega)).mono ?_
  rintro en v3 ⟨vp, rfl, hp, hb⟩
  have hbB := Lib.hid (hbA.out.trans (hb.mono hbA.out.size))
  have K3 := Lib.hid (Blk.below K2.out hb)
  have ho3 := Lib.hid (own_below ho'.out hb)
  have hsz3 := Lib.hid (Nat.le_trans hsz.out hb.size)
  have hp3 := Lib.hid ((Pf.of_own hp).le hsz.out)
  clear hb hp K2 q1 ho' hbA a0 hsz
  go_wp2_with fail
  have hown1 : lowN P Q m P.length = lowN P Q m n1 := by rw [← hN.out]
  go_loopw [3, 4, 5] (fun qv pv _ wr => ∃ n : Nat, n ≤ n1 ∧ Pf wr (w.heap.size + 2) pv (P.take n) ∧ wr.ownsRow (w.heap.size + 2) 5 1 qv m (ivs .u8 (rowL P Q n m)) ∧ lowN P Q m P.length = lowN P Q m n ∧ Blk wr (w.heap.size + 1) 120 #[.slice none 0 0, .slice none 0 0] ∧ Below w.heap.size w wr) (fun _ pv _ _ => lenV pv)
  case atStart => exact ⟨n1, Nat.le_refl _, by rw [hN.out, List.take_length]; exact hp3.out, by rw [hN.out]; exact ho3.out, hown1, K3.out, hbB.out⟩
  case round =>
    obtain ⟨n, hn1, hp, ho, hlow, K4, hB4⟩ := hrel
    obtain ⟨Ap, cp, rfl, hcp, hcp9⟩ := hp.form
    have hlen : (P.take n).length = n := by rw [List.length_take]; have := hN.out; omega
    rw [hlen] at hp hcp ⊢
    obtain ⟨Aq, cq, rfl⟩ : ∃ g cap, u3 = .slice (some ⟨g, 0, none⟩) m cap := by
      rcases own_forms ho with ⟨-, h⟩ | h
      · omega
      · exact h
    have hcq := (rd_cells (own_rdn ho)).2.1
    rw [rowL_len] at hcq
    have hcqm := (rd_cells (own_rdn ho)).2.2.1
    replace hp := Lib.hid hp
    replace ho := Lib.hid ho
    replace hlow := Lib.hid hlow
    replace K4 := Lib.hid K4
    replace hB4 := Lib.hid hB4
    replace hlen := Lib.hid hlen
    by_cases h0 : n = 0
    · subst h0
      have hPf : Hid (lowP P Q = P.take 0 ∧ lowQ P Q = rowL P Q 0 m) := Lib.hid ⟨by rw [lowP, ← hm.out, hlow.out]; rfl, by rw [lowQ, ← hm.out, hlow.out]; rfl⟩
      go_wp2_with fail
      go_quiet (fail)
      go_wp2_with fail
      refine (clip_any Ap 0 cp _ hcp).mono ?_
      rintro en v4 ⟨rfl, rfl⟩
      go_wp2_with fail
      refine (clip_any (some ⟨Aq, 0, none⟩) m cq _ hcq).mono ?_
      rintro en v5 ⟨rfl, rfl⟩
      have f0 : (wr.drewN nq).frozen? ⟨w.heap.size + 1, 0, none⟩ = false := Blk.frozen (Blk.drewN K4.out nq) 0
      have f1 : (wr.drewN nq).frozen? ⟨w.heap.size + 1, 1, none⟩ = false := Blk.frozen (Blk.drewN K4.out nq) 1
      have e0 : (wr.drewN nq).cell? ⟨w.heap.size + 1, 0, none⟩ = some (.slice none 0 0) := (Blk.drewN K4.out nq).cell 0
      have e1 : (wr.drewN nq).cell? ⟨w.heap.size + 1, 1, none⟩ = some (.slice none 0 0) := (Blk.drewN K4.out nq).cell 1
      go_wp2_with fail
      have KW : Blk (((wr.drewN nq).setCell ⟨w.heap.size + 1, 0, none⟩ (.slice Ap 0 0)).setCell ⟨w.heap.size + 1, 1, none⟩ (.slice (some ⟨Aq, 0, none⟩) m m)) (w.heap.size + 1) 120 #[.slice Ap 0 0, .slice (some ⟨Aq, 0, none⟩) m m] := (Blk.set_ (Blk.set_ (Blk.drewN K4.out nq) 0 _) 1 _)
      have w0 := KW.cell 0
      have w1 := KW.cell 1
      have hfar : ∀ b, w.heap.size + 2 ≤ b → b < wr.heap.size → (((wr.drewN nq).setCell ⟨w.heap.size + 1, 0, none⟩ (.slice Ap 0 0)).setCell ⟨w.heap.size + 1, 1, none⟩ (.slice (some ⟨Aq, 0, none⟩) m m)).heap[b]? = wr.heap[b]? := fun b hg _ => (Below.heap_setCell _ _ _ _ (by simp; omega)).trans (Below.heap_setCell _ _ _ _ (by simp; omega))
      have hPp := (Pf.take hp.out (k := 0) (by rw [hlen.out]; exact Nat.le_refl _) (c' := 0) (Nat.le_refl _) (by have := hcp9; omega)).keep hfar
      have hPq := (Pf.take (Pf.of_own ho.out) (k := m) (by rw [rowL_len]; exact Nat.le_refl _) (c' := m) (Nat.le_refl _) (by have := hcqm; omega)).keep hfar
      rw [List.take_take, Nat.min_self] at hPp
      rw [rowL_take (Nat.le_refl _)] at hPq
      have hBB := ((below_drewN hB4.out nq).setCell (p := ⟨w.heap.size + 1, 0, none⟩) (by simp) (.slice Ap 0 0)).setCell (p := ⟨w.heap.size + 1, 1, none⟩) (by simp) (.slice (some ⟨Aq, 0, none⟩) m m)
      refine bodyPost_ret (v := .agg #[.slice Ap 0 0, .slice (some ⟨Aq, 0, none⟩) m m]) (by simp [results, Tryz.results103, go_sem, w0, w1]) rfl ⟨_, _, rfl, ⟨by rw [hPf.out.1]; exact hPp.le (by omega), Ap, by rw [hPf.out.1, hlen.out]⟩, ⟨by rw [hPf.out.2]; exact hPq.le (by omega), some ⟨Aq, 0, none⟩, by rw [hPf.out.2, rowL_len]⟩, hBB⟩
    · obtain ⟨n, rfl⟩ : ∃ k, n = k + 1 := ⟨n - 1, by omega⟩
      have hnI : (0 : Int) < ((n + 1 : Nat) : Int) := by omega
      obtain ⟨x, hx⟩ : ∃ x, x = rowAt P Q n := ⟨_, rfl⟩
      obtain ⟨y, hy⟩ : ∃ y, y = rowAt P Q (n + m) := ⟨_, rfl⟩
      have hnl : n < P.length := by have := hN.out; omega
      have hex : (P.take (n + 1))[n]? = some x := by rw [List.getElem?_take_of_lt (by omega), hx, rowAt_pre hnl]
      have hey : (rowL P Q (n + 1) m)[m - 1]? = some y := by rw [rowL_get (by omega), hy]; congr 2; omega
      obtain ⟨g, cur, rfl, hgB, hgh, hgc⟩ := hp.out.open_ (fun e => by have := hlen.out; rw [e] at this; simp at this)
      have cx : wr.cell? ⟨g, n, none⟩ = some (.int .u8 (x : Int)) := hgc n x hex
      have cy : wr.cell? ⟨Aq, m - 1, none⟩ = some (.int .u8 (y : Int)) := by
        obtain ⟨g', off, e1, e2, e3⟩ := (rd_cells (own_rdn ho.out)).2.2.2 (fun e => by rw [e] at hey; simp at hey)
        injection e1 with e1
        injection e1 with e1 e4
        subst e1 e4
        have := e3 (m - 1) y hey
        rwa [Nat.zero_add] at this
      have hmI : (0 : Int) ≤ ((m : Int) - 1) := by omega
      obtain ⟨m1, hm1⟩ : ∃ m1, m = m1 + 1 := ⟨m - 1, by omega⟩
      subst hm1
      rw [Nat.add_sub_cancel] at cy
      clear hgc hex hey
      replace hx := Lib.hid hx
      replace hy := Lib.hid hy
      by_cases hxy : x = y
      · have hcut : Hid (lowN P Q (m1 + 1) P.length = lowN P Q (m1 + 1) n) := Lib.hid (by rw [hlow.out]; exact lowN_step (by rw [← hx.out, hxy, hy.out]))
        have hrow : Hid (rowL P Q n (m1 + 1) = x :: (rowL P Q (n + 1) (m1 + 1)).take m1) := Lib.hid (by rw [rowL_cons, rowL_take (by omega), ← hx.out])
        have hpt : Hid (Pf wr (w.heap.size + 2) (.slice (some ⟨g, 0, none⟩) n cp) (P.take n)) := Lib.hid (by
          have := Pf.take hp.out (k := n) (c' := cp) (by rw [hlen.out]; omega) (by omega) hcp9
          rwa [List.take_take, Nat.min_eq_left (by omega)] at this)
        subst hxy
        go_wp2_with fail
        go_quiet (fail)
        obtain ⟨wo, hwo⟩ : ∃ wo : World, wo = wr.drewN nq := ⟨_, rfl⟩
        have hs0 : wo.heap.size = wr.heap.size := by rw [hwo]; rfl
        have hrd := Lib.hid (Rd.take (own_rdn (show wo.ownsRow (w.heap.size + 2) 5 1 (.slice (some ⟨Aq, 0, none⟩) (m1 + 1) cq) (m1 + 1) (ivs .u8 (rowL P Q (n + 1) (m1 + 1))) by rw [hwo]; exact ho.out)) (n := m1) (by rw [rowL_len]; omega) (c' := cq) (by omega) hcqm)
        have hp0 := Lib.hid (show Pf wo (w.heap.size + 2) (.slice (some ⟨g, 0, none⟩) n cp) (P.take n) by rw [hwo]; exact hpt.out)
        have hK0 := Lib.hid (show Blk wo (w.heap.size + 1) 120 #[.slice none 0 0, .slice none 0 0] by rw [hwo]; exact Blk.drewN K4.out nq)
        have hB0 := Lib.hid (show Below w.heap.size w wo by rw [hwo]; exact below_drewN hB4.out nq)
        have hgs : Hid (w.heap.size + 2 ≤ wo.heap.size) := Lib.hid (by have := K4.out.lt; rw [hs0]; omega)
        have cx0 : wo.cell? ⟨g, n, none⟩ = some (.int .u8 (x : Int)) := by rw [hwo]; exact cx
        rw [← hwo]
        clear hwo hs0 cx cy hp ho K4 hB4 hpt
        go_wp2_with (at_builtin; refine wpList_append_rd rfl _ _ 118 rfl .u8 (w.heap.size + 2) 5 5 i0 (.int .u8 0) 1 Tryz.underlying118 hi hz0 hz1 hz2 rfl _ 1 [.int .u8 (x : Int)] rfl (own_one wo 5 _ hgs.out) _ _ _ ((rowL P Q (n + 1) (m1 + 1)).take m1) rfl (hrd.out.alloc _) ?d1 ?d2 ?d3 ?_)
        case d1 => unfold maxLen; omega
        case d2 => omega
        case d3 => have := hgs.out; simp; omega
        intro va wa hoa hga
        have hoa2 : wa.ownsRow (w.heap.size + 2) 5 1 va (m1 + 1) (ivs .u8 (rowL P Q n (m1 + 1))) := by
          rw [Nat.add_comm 1 m1] at hoa
          rw [hrow.out]
          exact hoa
        have hpa : Pf wa (w.heap.size + 2) (.slice (some ⟨g, 0, none⟩) n cp) (P.take n) := hp0.out.keep (fun b hb1 hb2 => (hga.block b (by simp; omega) (fun e => by simp [Value.ownBlock] at e; omega)).trans (Below.heap_alloc wo _ b hb2))
        have hKa : Blk wa (w.heap.size + 1) 120 #[.slice none 0 0, .slice none 0 0] := Blk.grown (hK0.out.alloc _) hga (fun e => by
          have := hgs.out; simp [Value.ownBlock] at e; omega)
        have hBa : Below w.heap.size w wa := (hB0.out.alloc hB0.out.size _).grown hga (by have := hB0.out.size; simp; omega) (fun k hk => by have := hgs.out; simp [Value.ownBlock] at hk; omega)
        replace hoa2 := Lib.hid hoa2
        replace hpa := Lib.hid hpa
        replace hKa := Lib.hid hKa
        replace hBa := Lib.hid hBa
        clear hga hoa hrd hp0 hK0 hB0 cx0 hrow
        go_wp2_with fail
        go_roundw
        case rel => exact ⟨n, by omega, hpa.out, hoa2.out, hcut.out, hKa.out, hBa.out⟩
        case measure => simp [lenV]
      · have hPf : Hid (lowP P Q = P.take (n + 1) ∧ lowQ P Q = rowL P Q (n + 1) (m1 + 1)) := Lib.hid (by
          have e : lowN P Q (m1 + 1) P.length = n + 1 := by rw [hlow.out]; exact lowN_stop (by rw [← hx.out, ← hy.out]; exact hxy)
          exact ⟨by rw [lowP, ← hm.out, e], by rw [lowQ, ← hm.out, e]⟩)
        have hxyI : ¬ (x : Int) = (y : Int) := by omega
        go_wp2_with fail
        go_quiet (fail)
        go_wp2_with fail
        refine (clip_any (some ⟨g, 0, none⟩) (n + 1) cp _ hcp).mono ?_
        rintro en v4 ⟨rfl, rfl⟩
        go_wp2_with fail
        refine (clip_any (some ⟨Aq, 0, none⟩) (m1 + 1) cq _ hcq).mono ?_
        rintro en v5 ⟨rfl, rfl⟩
        have f0 : (wr.drewN nq).frozen? ⟨w.heap.size + 1, 0, none⟩ = false := Blk.frozen (Blk.drewN K4.out nq) 0
        have f1 : (wr.drewN nq).frozen? ⟨w.heap.size + 1, 1, none⟩ = false := Blk.frozen (Blk.drewN K4.out nq) 1
        have e0 : (wr.drewN nq).cell? ⟨w.heap.size + 1, 0, none⟩ = some (.slice none 0 0) := (Blk.drewN K4.out nq).cell 0
        have e1 : (wr.drewN nq).cell? ⟨w.heap.size + 1, 1, none⟩ = some (.slice none 0 0) := (Blk.drewN K4.out nq).cell 1
        go_wp2_with fail
        have KW : Blk (((wr.drewN nq).setCell ⟨w.heap.size + 1, 0, none⟩ (.slice (some ⟨g, 0, none⟩) (n + 1) (n + 1))).setCell ⟨w.heap.size + 1, 1, none⟩ (.slice (some ⟨Aq, 0, none⟩) (m1 + 1) (m1 + 1))) (w.heap.size + 1) 120 #[.slice (some ⟨g, 0, none⟩) (n + 1) (n + 1), .slice (some ⟨Aq, 0, none⟩) (m1 + 1) (m1 + 1)] := (Blk.set_ (Blk.set_ (Blk.drewN K4.out nq) 0 _) 1 _)
        have w0 := KW.cell 0
        have w1 := KW.cell 1
        have hfar : ∀ b, w.heap.size + 2 ≤ b → b < wr.heap.size → (((wr.drewN nq).setCell ⟨w.heap.size + 1, 0, none⟩ (.slice (some ⟨g, 0, none⟩) (n + 1) (n + 1))).setCell ⟨w.heap.size + 1, 1, none⟩ (.slice (some ⟨Aq, 0, none⟩) (m1 + 1) (m1 + 1))).heap[b]? = wr.heap[b]? := fun b hg _ => (Below.heap_setCell _ _ _ _ (by simp; omega)).trans (Below.heap_setCell _ _ _ _ (by simp; omega))
        have hPp := (Pf.take hp.out (k := n + 1) (by rw [hlen.out]; exact Nat.le_refl _) (c' := n + 1) (Nat.le_refl _) (by have := hcp9; omega)).keep hfar
        have hPq := (Pf.take (Pf.of_own ho.out) (k := m1 + 1) (by rw [rowL_len]; exact Nat.le_refl _) (c' := m1 + 1) (Nat.le_refl _) (by have := hcqm; omega)).keep hfar
        rw [List.take_take, Nat.min_self] at hPp
        rw [rowL_take (Nat.le_refl _)] at hPq
        have hBB := ((below_drewN hB4.out nq).setCell (p := ⟨w.heap.size + 1, 0, none⟩) (by simp) (.slice (some ⟨g, 0, none⟩) (n + 1) (n + 1))).setCell (p := ⟨w.heap.size + 1, 1, none⟩) (by simp) (.slice (some ⟨Aq, 0, none⟩) (m1 + 1) (m1 + 1))
        refine bodyPost_ret (v := .agg #[.slice (some ⟨g, 0, none⟩) (n + 1) (n + 1), .slice (some ⟨Aq, 0, none⟩) (m1 + 1) (m1 + 1)]) (by simp [results, Tryz.results103, go_sem, w0, w1]) rfl ⟨_, _, rfl, ⟨by rw [hPf.out.1]; exact hPp.le (by omega), some ⟨g, 0, none⟩, by rw [hPf.out.1, hlen.out]⟩, ⟨by rw [hPf.out.2]; exact hPq.le (by omega), some ⟨Aq, 0, none⟩, by rw [hPf.out.2, rowL_len]⟩, hBB⟩
open Go.RowKit Go.Sort
end Go.Proofs.YtoaggmegmgdgbaaGreat
