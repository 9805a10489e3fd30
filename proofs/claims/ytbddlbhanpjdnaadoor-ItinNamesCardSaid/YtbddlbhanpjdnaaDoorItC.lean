/- Package itin: at, Check. -/
import Derived.Test.YtbddlbhanpjdnaaDoorItR
import Derived.Test.YtbddlbhanpjdnaaDoorItA
import Derived.BigQuiet
namespace Go.Proofs.YtbddlbhanpjdnaaDoor
open Go.RowKit Go.Sort

set_option maxRecDepth 100000 in
set_option maxHeartbeats 1000000 in
/-- itin.at -/
theorem iat_any {T1 T2 : TypeId} (A1 A2 : Option Addr) (n1 c1 n2 c2 n : Nat) (P Q : List Nat) (w : World) (h1 : Rd .u8 T1 w (.slice A1 n1 c1) P) (h2 : Rd .u8 T2 w (.slice A2 n2 c2) Q)
    (hQ : 0 < Q.length) (hP9 : P.length ≤ 1099511627776) (hQ9 : Q.length ≤ 1099511627776) (hn : n ≤ 9007199254740992) :
    Calls Tryd.prog 40 #[.agg #[.slice A1 n1 c1, .slice A2 n2 c2], .int .i64 (n : Int)] w (RetVal (.int .u8 ((rowAt P Q n : Nat) : Int)) w) := by
  obtain ⟨x, hx⟩ : ∃ x, x = rowAt P Q n := ⟨_, rfl⟩
  rw [← hx]
  obtain ⟨rfl, hc1, hc1m, hcell1⟩ := rd_cells h1
  obtain ⟨rfl, hc2, hc2m, hcell2⟩ := rd_cells h2
  obtain ⟨a, ha⟩ : ∃ a, a = P.length := ⟨_, rfl⟩
  obtain ⟨b, hb⟩ : ∃ b, b = Q.length := ⟨_, rfl⟩
  have hBW : Below w.heap.size w (w.alloc (.cells #[.slice A1 a c1, .slice A2 b c2] 28)) := (Below.refl _ w).alloc (Nat.le_refl _) _
  replace hBW := Lib.hid hBW
  by_cases h0 : n < P.length
  · obtain ⟨g, off, rfl, hg, hcell⟩ := hcell1 (fun e => by rw [e] at h0; exact absurd h0 (by simp))
    have hcx : (w.alloc (.cells #[.slice (some ⟨g, off, none⟩) a c1, .slice A2 b c2] 28)).cell? ⟨g, off + n, none⟩ = some (.int .u8 (x : Int)) := by
      have e := hcell n x (by rw [hx]; exact rowAt_pre h0)
      exact (Lib.cell?_alloc_some _ e)
    rw [← ha] at h0 hc1 hP9 ⊢
    rw [← hb] at hc2 hQ hQ9 ⊢
    have h0I : (n : Int) < (a : Int) := by omega
    replace hx := Lib.hid hx
    clear hcell1 hcell2 hcell h1 h2 ha hb
    go_enter Tryd.func40, Tryd.ntmps40
    go_wp2_with fail
    go_ret
    exact ⟨rfl, hBW.out⟩
  · obtain ⟨g, off, rfl, hg, hcell⟩ := hcell2 (fun e => by rw [e] at hQ; exact absurd hQ (by simp))
    obtain ⟨j, hj⟩ : ∃ j, j = (n - P.length) % Q.length := ⟨_, rfl⟩
    obtain ⟨k, hk⟩ : ∃ k, k = n - P.length := ⟨_, rfl⟩
    have hjb : j < Q.length := by rw [hj]; exact Nat.mod_lt _ hQ
    have hcx : (w.alloc (.cells #[.slice A1 a c1, .slice (some ⟨g, off, none⟩) b c2] 28)).cell? ⟨g, off + j, none⟩ = some (.int .u8 (x : Int)) := by
      have e := hcell j x (by rw [hx, hj]; exact rowAt_per (by omega) hQ)
      exact (Lib.cell?_alloc_some _ e)
    rw [← hk] at hj
    have hji : (k : Int).tmod (b : Int) = (j : Int) := by rw [hj, hb]; exact tmod_nat _ _
    rw [← ha] at h0 hc1 hP9 hk ⊢
    rw [← hb] at hc2 hQ hQ9 hjb ⊢
    have h0I : ¬ (n : Int) < (a : Int) := by omega
    have hki : (n : Int) - (a : Int) = (k : Int) := by omega
    have hb0 : ¬ (b : Int) = 0 := by omega
    have hjI : (j : Int) < (b : Int) := by omega
    replace hx := Lib.hid hx
    replace hj := Lib.hid hj
    clear hcell1 hcell2 hcell h1 h2 ha hb hk
    go_enter Tryd.func40, Tryd.ntmps40
    go_wp2_with fail
    go_quiet (fail)
    go_wp2_with fail
    go_ret
    exact ⟨rfl, below_drewN hBW.out _⟩

set_option maxRecDepth 100000 in
/-- What Check asks of a symbol. -/
theorem bad_any (x : Nat) (w : World) (hx : x < 256) :
    Calls Tryd.prog 43 #[.int .u8 (x : Int)] w fun e w' => e = .returned (.bool (!symB x)) ∧ w' = w := by
  obtain ⟨b, hb⟩ : ∃ b, b = !symB x := ⟨_, rfl⟩
  rw [← hb]
  replace hb := Lib.hid hb
  by_cases h1 : x < 64
  · have hv : b = false := by rw [hb.out]; simp [symB, h1]
    subst hv
    have h1I : ¬ (64 : Int) ≤ (x : Int) := by omega
    go_enter Tryd.func43, Tryd.ntmps43
    go_wp2_with fail
    go_ret
    exact ⟨rfl, rfl⟩
  · have h1I : (64 : Int) ≤ (x : Int) := by omega
    by_cases h2 : x = 255
    · subst h2
      have hv : b = false := by rw [hb.out]; simp [symB]
      subst hv
      go_enter Tryd.func43, Tryd.ntmps43
      go_wp2_with fail
      go_ret
      exact ⟨rfl, rfl⟩
    · have hv : b = true := by rw [hb.out]; simp [symB, h1, h2]
      subst hv
      have h2I : ¬ (x : Int) = 255 := by omega
      have e9 : ((x : Int) != 255) = true := by simp; omega
      go_enter Tryd.func43, Tryd.ntmps43
      go_wp2_with fail
      go_ret
      exact ⟨by simp [e9], rfl⟩

set_option maxRecDepth 100000 in
set_option maxHeartbeats 1000000 in
/-- slices.IndexFunc with Check's question. -/
theorem indexBad_any {T : TypeId} (A : Option Addr) (n c : Nat) (l : List Nat) (w : World) (h : Rd .u8 T w (.slice A n c) l) (hs : ∀ x, x ∈ l → x < 256) (hl : l.length ≤ 140737488355328) :
    Calls Tryd.prog 64 #[.slice A n c, .func (.func 43) #[] #[]] w fun e w' => (∃ i : Int, e = .returned (.int .i64 i) ∧ decide (0 ≤ i) = !(l.all symB)) ∧ w' = w := by
  obtain ⟨rfl, hc1, hc1m, hcell⟩ := rd_cells h
  obtain ⟨L, hL⟩ : ∃ L, L = l.length := ⟨_, rfl⟩
  rw [← hL] at hl hc1 ⊢
  replace hcell := Lib.hid hcell
  replace hs := Lib.hid hs
  replace hL := Lib.hid hL
  clear h
  go_enter Tryd.func64, Tryd.ntmps64
  go_wp2_with fail
  go_loopw [5, 8] (fun _ iv wr => ∃ i : Nat, iv = .int .i64 (i : Int) ∧ i ≤ L ∧ (l.take i).all symB = true ∧ wr = w) (fun _ iv _ => L - (intOf iv).toNat)
  case atStart => exact ⟨0, rfl, Nat.zero_le _, rfl, rfl⟩
  case round =>
    obtain ⟨i, rfl, hi, hok, rfl⟩ := hrel
    replace hok := Lib.hid hok
    by_cases h0 : i < L
    · have h0I : (i : Int) < (L : Int) := by omega
      have hil : i < l.length := by rw [← hL.out]; exact h0
      obtain ⟨x, hx⟩ : ∃ x, l[i]? = some x := ⟨_, List.getElem?_eq_getElem hil⟩
      obtain ⟨g, off, rfl, hg, hc⟩ := hcell.out (fun e => by rw [e] at hil; exact absurd hil (by simp))
      have hcx := hc i x hx
      have hx9 := hs.out x (List.mem_of_getElem? hx)
      have htk : (l.take (i + 1)).all symB = symB x := by
        have e : l.take (i + 1) = l.take i ++ [x] := by
          rw [List.take_succ_eq_append_getElem hil]
          rw [List.getElem?_eq_getElem hil] at hx
          rw [Option.some.inj hx]
        rw [e, List.all_append, hok.out]
        simp
      replace htk := Lib.hid htk
      replace hx := Lib.hid hx
      clear hc hg
      go_wp2_with fail
      refine (bad_any x _ hx9).mono ?_
      rintro en w1 ⟨rfl, rfl⟩
      cases hb : symB x
      · have hv : Hid (l.all symB = false) := Lib.hid (by
          cases h : l.all symB
          · rfl
          · have := List.all_eq_true.1 h x (List.mem_of_getElem? hx.out)
            rw [hb] at this; cases this)
        go_wp2_with fail
        go_ret
        exact ⟨⟨_, rfl, by rw [hv.out]; simp⟩, rfl⟩
      · rw [hb] at htk
        go_wp2_with fail
        go_roundw
        case rel => exact ⟨i + 1, by go_num, by omega, htk.out, by first | rfl | trivial⟩
        case measure => simp [intOf]; omega
    · obtain rfl : i = L := by omega
      have h0I : ¬ (i : Int) < (i : Int) := by omega
      have hv : Hid (l.all symB = true) := Lib.hid (by have := hok.out; rwa [hL.out, List.take_length] at this)
      go_wp2_with fail
      go_ret
      exact ⟨⟨-1, rfl, by rw [hv.out]; simp⟩, rfl⟩

set_option maxRecDepth 100000 in
/-- slices.ContainsFunc with Check's question. -/
theorem containsBad_any {T : TypeId} (A : Option Addr) (n c : Nat) (l : List Nat) (w : World) (h : Rd .u8 T w (.slice A n c) l) (hs : ∀ x, x ∈ l → x < 256) (hl : l.length ≤ 140737488355328) :
    Calls Tryd.prog 44 #[.slice A n c, .func (.func 43) #[] #[]] w fun e w' => e = .returned (.bool (!(l.all symB))) ∧ w' = w := by
  replace h := Lib.hid h
  replace hs := Lib.hid hs
  go_enter Tryd.func44, Tryd.ntmps44
  go_wp2_with fail
  refine (indexBad_any A n c l _ h.out hs.out hl).mono ?_
  rintro en w1 ⟨⟨i, rfl, hi⟩, rfl⟩
  replace hi := Lib.hid hi
  go_wp2_with fail
  go_ret
  exact ⟨by rw [← hi.out]; rfl, rfl⟩

/-- What Check tells. -/
def chkE (P Q : List Nat) : Int := if mayI P Q then 0 else 220
theorem mayI_no {P Q : List Nat} (h : mayI P Q = false) : chkE P Q = 220 := by simp [chkE, h]
theorem mayI_yes {P Q : List Nat} (h : mayI P Q = true) : chkE P Q = 0 := by simp [chkE, h]

set_option maxRecDepth 100000 in
set_option maxHeartbeats 1000000 in
/-- itin.Check -/
theorem iCheck_any {T1 T2 : TypeId} (A1 A2 : Option Addr) (n1 c1 n2 c2 : Nat) (P Q : List Nat) (w : World) (h1 : Rd .u8 T1 w (.slice A1 n1 c1) P) (h2 : Rd .u8 T2 w (.slice A2 n2 c2) Q)
    (s1 : ∀ x, x ∈ P → x < 256) (s2 : ∀ x, x ∈ Q → x < 256) (hP9 : P.length ≤ 140737488351232) (hQ9 : Q.length ≤ 140737488351232) :
    Calls Tryd.prog 23 #[.agg #[.slice A1 n1 c1, .slice A2 n2 c2]] w (RetVal (.int .i64 (chkE P Q)) w) := by
  obtain ⟨r, hr⟩ : ∃ r, r = chkE P Q := ⟨_, rfl⟩
  rw [← hr]
  obtain rfl := (rd_cells h1).1
  obtain rfl := (rd_cells h2).1
  obtain ⟨a, ha⟩ : ∃ a, a = P.length := ⟨_, rfl⟩
  obtain ⟨b, hb⟩ : ∃ b, b = Q.length := ⟨_, rfl⟩
  rw [← ha] at h1 hP9 ⊢
  rw [← hb] at h2 hQ9 ⊢
  have hBW : Below w.heap.size w (w.alloc (.cells #[.slice A1 a c1, .slice A2 b c2] 28)) := (Below.refl _ w).alloc (Nat.le_refl _) _
  have hC1 := fun W h => containsBad_any A1 a c1 P W h s1 (by rw [← ha]; omega) (T := T1)
  have hC2 := fun W h => containsBad_any A2 b c2 Q W h s2 (by rw [← hb]; omega) (T := T2)
  have q1 := h1.alloc (.cells #[.slice A1 a c1, .slice A2 b c2] 28)
  have q2 := h2.alloc (.cells #[.slice A1 a c1, .slice A2 b c2] 28)
  have hno : b = 0 ∨ 4096 < a + b ∨ P.all symB = false ∨ Q.all symB = false → r = 220 := fun h => by
    rw [hr]
    refine mayI_no ?_
    cases hm : mayI P Q
    · rfl
    · simp only [mayI, Bool.and_eq_true, decide_eq_true_eq] at hm
      obtain ⟨⟨⟨m1, m2⟩, m3⟩, m4⟩ := hm
      have m5 := List.length_pos_iff.2 m1
      rw [← ha, ← hb] at m2
      rw [← hb] at m5
      rcases h with h | h | h | h
      · omega
      · omega
      · rw [h] at m3; cases m3
      · rw [h] at m4; cases m4
  have hyes : b ≠ 0 → a + b ≤ 4096 → P.all symB = true → Q.all symB = true → r = 0 := fun k1 k2 k3 k4 => by
    rw [hr]
    refine mayI_yes ?_
    have : Q ≠ [] := fun e => k1 (by rw [hb, e]; rfl)
    rw [mayI, ← ha, ← hb, k3, k4]
    simp [this, k2]
  obtain ⟨okP, hokP⟩ : ∃ o, o = P.all symB := ⟨_, rfl⟩
  obtain ⟨okQ, hokQ⟩ : ∃ o, o = Q.all symB := ⟨_, rfl⟩
  rw [← hokP] at hno hyes
  rw [← hokQ] at hno hyes
  simp only [← hokP] at hC1
  simp only [← hokQ] at hC2
  replace hno := Lib.hid hno
  replace hyes := Lib.hid hyes
  replace hC1 := Lib.hid hC1
  replace hC2 := Lib.hid hC2
  replace q1 := Lib.hid q1
  replace q2 := Lib.hid q2
  replace hBW := Lib.hid hBW
  clear hr h1 h2 s1 s2 ha hb hokP hokQ
  by_cases b0 : b = 0
  · obtain rfl := hno.out (.inl b0)
    subst b0
    go_enter Tryd.func23, Tryd.ntmps23
    go_wp2_with fail
    go_ret
    exact ⟨rfl, hBW.out⟩
  · have b0I : ¬ (b : Int) = 0 := by omega
    by_cases hm : 4096 < a + b
    · obtain rfl := hno.out (.inr (.inl hm))
      have hmI : (4096 : Int) < (a : Int) + (b : Int) := by omega
      go_enter Tryd.func23, Tryd.ntmps23
      go_wp2_with fail
      go_ret
      exact ⟨rfl, hBW.out⟩
    · have hmI : ¬ (4096 : Int) < (a : Int) + (b : Int) := by omega
      go_enter Tryd.func23, Tryd.ntmps23
      go_wp2_with fail
      refine (hC1.out _ q1.out).mono ?_
      rintro en w1 ⟨rfl, rfl⟩
      cases okP
      · obtain rfl := hno.out (.inr (.inr (.inl rfl)))
        go_wp2_with fail
        go_ret
        exact ⟨rfl, hBW.out⟩
      · go_wp2_with fail
        refine (hC2.out _ q2.out).mono ?_
        rintro en w1 ⟨rfl, rfl⟩
        cases okQ
        · obtain rfl := hno.out (.inr (.inr (.inr rfl)))
          go_wp2_with fail
          go_ret
          exact ⟨rfl, hBW.out⟩
        · obtain rfl := hyes.out b0 (by omega) (by simp) (by simp)
          go_wp2_with fail
          go_ret
          exact ⟨rfl, hBW.out⟩

/-- What rho tells: 0, if there is none. -/
def rhoF (P Q : List Nat) (n : Nat) : Nat → Nat → Nat
  | 0, _ => 0
  | f + 1, i => if rowAt P Q (i + n) ≠ rowAt P Q i then i + n + 1 else rhoF P Q n f (i + 1)
def rhoN (P Q : List Nat) (n : Nat) : Nat := rhoF P Q n (P.length + Q.length) 0

set_option maxRecDepth 100000 in
set_option maxHeartbeats 1000000 in
/-- itin.rho -/
theorem irho_any {T1 T2 : TypeId} (A1 A2 : Option Addr) (n1 c1 n2 c2 n : Nat) (P Q : List Nat) (w : World) (h1 : Rd .u8 T1 w (.slice A1 n1 c1) P) (h2 : Rd .u8 T2 w (.slice A2 n2 c2) Q)
    (hQ : 0 < Q.length) (hP9 : P.length + Q.length ≤ 4096) (hn : n ≤ 1000000) :
    Calls Tryd.prog 41 #[.agg #[.slice A1 n1 c1, .slice A2 n2 c2], .int .i64 (n : Int)] w (RetVal (.int .i64 ((rhoN P Q n : Nat) : Int)) w) := by
  obtain ⟨r, hr⟩ : ∃ r, r = rhoN P Q n := ⟨_, rfl⟩
  rw [← hr]
  obtain rfl := (rd_cells h1).1
  obtain rfl := (rd_cells h2).1
  obtain ⟨a, ha⟩ : ∃ a, a = P.length := ⟨_, rfl⟩
  obtain ⟨b, hb⟩ : ∃ b, b = Q.length := ⟨_, rfl⟩
  have hat := fun (k : Nat) (hk : k ≤ 9007199254740992) W h1 h2 => iat_any (T1 := T1) (T2 := T2) A1 A2 P.length c1 Q.length c2 k P Q W h1 h2 hQ (by omega) (by omega) hk
  rw [rhoN, ← ha, ← hb] at hr
  rw [← ha, ← hb] at hat hP9
  rw [← ha] at h1 ⊢
  rw [← hb] at h2 hQ ⊢
  have hBW : Below w.heap.size w (w.alloc (.cells #[.slice A1 a c1, .slice A2 b c2] 28)) := (Below.refl _ w).alloc (Nat.le_refl _) _
  have q1 := h1.alloc (.cells #[.slice A1 a c1, .slice A2 b c2] 28)
  have q2 := h2.alloc (.cells #[.slice A1 a c1, .slice A2 b c2] 28)
  have hK := Blk.new w 28 #[.slice A1 a c1, .slice A2 b c2]
  replace q1 := Lib.hid q1
  replace q2 := Lib.hid q2
  replace hBW := Lib.hid hBW
  replace hK := Lib.hid hK
  replace hr := Lib.hid hr
  replace hat := Lib.hid hat
  clear h1 h2 ha hb
  have hab : (0 : Int) < (a : Int) + (b : Int) := by omega
  go_enter Tryd.func41, Tryd.ntmps41
  go_wp2_with fail
  go_loopw [5, 13] (fun _ iv wr => ∃ i : Nat, iv = .int .i64 (i : Int) ∧ i ≤ a + b ∧ r = rhoF P Q n (a + b - i) i ∧ Rd .u8 T1 wr (.slice A1 a c1) P ∧ Rd .u8 T2 wr (.slice A2 b c2) Q ∧ Blk wr w.heap.size 28 #[.slice A1 a c1, .slice A2 b c2] ∧ Below w.heap.size w wr) (fun _ iv _ => a + b - (intOf iv).toNat)
  case atStart => exact ⟨0, rfl, Nat.zero_le _, hr.out, q1.out, q2.out, hK.out, hBW.out⟩
  case round =>
    obtain ⟨i, rfl, hi, hri, p1, p2, pK, pB⟩ := hrel
    replace hri := Lib.hid hri
    by_cases h0 : i < a + b
    · have h0I : (i : Int) < (a : Int) + (b : Int) := by omega
      have hin : IntKind.i64.wrap ((i : Int) + (n : Int)) = ((i + n : Nat) : Int) := by rw [IntKind.wrap_i64]; push_cast; omega
      obtain ⟨x, hx⟩ : ∃ x, x = rowAt P Q (i + n) := ⟨_, rfl⟩
      obtain ⟨y, hy⟩ : ∃ y, y = rowAt P Q i := ⟨_, rfl⟩
      have m0 : ∀ d os, (grow (redrawn wr d) os).cell? ⟨w.heap.size, 0, none⟩ = some (.slice A1 a c1) := cell_regrown (Blk.cell pK 0)
      have m1 : ∀ d os, (grow (redrawn wr d) os).cell? ⟨w.heap.size, 1, none⟩ = some (.slice A2 b c2) := cell_regrown (Blk.cell pK 1)
      have cx : ∀ d os, Calls Tryd.prog 40 #[.agg #[.slice A1 a c1, .slice A2 b c2], .int .i64 (IntKind.i64.wrap ((i : Int) + (n : Int)))] (grow (redrawn wr d) os) fun e w'' => e = .returned (.int .u8 (x : Int)) ∧ ∃ p : Regrown, w'' = grow (redrawn wr p.d) p.os :=
        fun d os => Calls.regrown_of (by
          rw [hx, hin]
          have hb := below_regrown wr d os
          exact hat.out (i + n) (by omega) _ (p1.below hb) (p2.below hb))
      have cy : ∀ d os, Calls Tryd.prog 40 #[.agg #[.slice A1 a c1, .slice A2 b c2], .int .i64 (i : Int)] (grow (redrawn wr d) os) fun e w'' => e = .returned (.int .u8 (y : Int)) ∧ ∃ p : Regrown, w'' = grow (redrawn wr p.d) p.os :=
        fun d os => Calls.regrown_of (by
          rw [hy]
          have hb := below_regrown wr d os
          exact hat.out i (by omega) _ (p1.below hb) (p2.below hb))
      replace hx := Lib.hid hx
      replace hy := Lib.hid hy
      clear hin
      go_upto_region 4 with fail
      refine wp_region_quiet_below (by kernel_rfl) (by kernel_rfl) ?_
      iterate 4 (quiet_step (fail))
      quiet_step (exact cx _ _)
      iterate 2 (quiet_step (fail))
      quiet_step (exact cy _ _)
      iterate 1 (quiet_step (fail))
      refine wpQuiet_nil ?_
      intro q5 hw'
      have hb : Below wr.heap.size wr q5 := by
        obtain ⟨p, rfl⟩ := hw'
        exact below_regrown wr p.d p.os
      clear hw' cx cy m0 m1
      have k1 := Lib.hid (p1.below hb)
      have k2 := Lib.hid (p2.below hb)
      have kK := Lib.hid (Blk.below pK hb)
      have kB := Lib.hid (pB.trans (hb.mono pB.size))
      clear hb p1 p2 pK pB
      have hfu : a + b - i = (a + b - (i + 1)) + 1 := by omega
      by_cases hxy : x = y
      · have hri2 : Hid (r = rhoF P Q n (a + b - (i + 1)) (i + 1)) := Lib.hid (by rw [hri.out, hfu, rhoF, if_neg (by rw [← hx.out, ← hy.out]; simp [hxy])])
        subst hxy
        clear hri
        go_wp2_with fail
        go_roundw
        case rel => exact ⟨i + 1, by go_num, by omega, hri2.out, k1.out, k2.out, kK.out, kB.out⟩
        case measure => simp [intOf]; omega
      · have hri2 : Hid (r = i + n + 1) := Lib.hid (by rw [hri.out, hfu, rhoF, if_pos (by rw [← hx.out, ← hy.out]; exact hxy)])
        have hxyI : ¬ (x : Int) = (y : Int) := by omega
        clear hri
        go_wp2_with fail
        go_ret
        exact ⟨by rw [hri2.out]; push_cast; rfl, kB.out⟩
    · obtain rfl : i = a + b := by omega
      have hri2 : Hid (r = 0) := Lib.hid (by rw [hri.out, Nat.sub_self]; rfl)
      have h0I : ¬ ((a + b : Nat) : Int) < (a : Int) + (b : Int) := by omega
      replace pB := Lib.hid pB
      clear hri p1 p2 pK
      go_wp2_with fail
      go_ret
      exact ⟨by rw [hri2.out]; rfl, pB.out⟩
end Go.Proofs.YtbddlbhanpjdnaaDoor
