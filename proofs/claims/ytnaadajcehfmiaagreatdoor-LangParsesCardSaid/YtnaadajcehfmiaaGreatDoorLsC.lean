/- lang.Same, the document's Same. -/
import Derived.Test.YtnaadajcehfmiaaGreatDoorLwF
namespace Go.Proofs.YtnaadajcehfmiaaGreatDoor
open Go.RowKit Go.Sort Go.Maps

instance : DecidableEq RNo := fun r s => decidable_of_iff (r.kind = s.kind ∧ r.text = s.text ∧ r.a = s.a ∧ r.b = s.b ∧ r.n = s.n) (by
  obtain ⟨k, t, a, b, n⟩ := r
  obtain ⟨k', t', a', b', n'⟩ := s
  simp)
instance : DecidableEq RLt := fun r s => decidable_of_iff (r.name = s.name ∧ r.at_ = s.at_) (by
  obtain ⟨t, a⟩ := r
  obtain ⟨t', a'⟩ := s
  simp)
theorem neq_node {r s : RNo} (hr : Byt r.text) (hs : Byt s.text) {d : Bool} (hd : d = decide (r ≠ s)) (W : World) :
    (binOp .neq 52 (.agg #[.int .u8 (r.kind : Int), .string (mkS r.text), .int .i64 r.a, .int .i64 r.b, .int .i64 r.n]) (.agg #[.int .u8 (s.kind : Int), .string (mkS s.text), .int .i64 s.a, .int .i64 s.b, .int .i64 s.n])).run Tryz.prog W = .ok (.bool d) W := by
  subst hd
  obtain ⟨k, t, a, b, n⟩ := r
  obtain ⟨k', t', a', b', n'⟩ := s
  simp only at hr hs
  have e := mkS_beq hr hs
  by_cases h1 : k = k'
  · subst h1
    by_cases h2 : t = t'
    · subst h2
      by_cases h3 : a = a'
      · subst h3
        by_cases h4 : b = b'
        · subst h4
          by_cases h5 : n = n'
          · subst h5; simp [go_sem]
          · have h5' : (n == n') = false := by rw [beq_eq_false_iff_ne]; exact h5
            simp [go_sem, h5, h5']
        · have h4' : (b == b') = false := by rw [beq_eq_false_iff_ne]; exact h4
          simp [go_sem, h4, h4']
      · have h3' : (a == a') = false := by rw [beq_eq_false_iff_ne]; exact h3
        simp [go_sem, h3, h3']
    · have e' : ((mkS t).toList == (mkS t').toList) = false := by rw [e]; simp [h2]
      simp [go_sem, e', h2]
  · have h1' : ((k : Int) == (k' : Int)) = false := by rw [beq_eq_false_iff_ne]; omega
    simp [go_sem, h1, h1']
theorem neq_let {r s : RLt} (hr : Byt r.name) (hs : Byt s.name) {d : Bool} (hd : d = decide (r ≠ s)) (W : World) :
    (binOp .neq 54 (.agg #[.string (mkS r.name), .int .i64 r.at_]) (.agg #[.string (mkS s.name), .int .i64 s.at_])).run Tryz.prog W = .ok (.bool d) W := by
  subst hd
  obtain ⟨t, a⟩ := r
  obtain ⟨t', a'⟩ := s
  simp only at hr hs
  have e := mkS_beq hr hs
  by_cases h2 : t = t'
  · subst h2
    by_cases h3 : a = a'
    · subst h3; simp [go_sem]
    · have h3' : (a == a') = false := by rw [beq_eq_false_iff_ne]; exact h3
      simp [go_sem, h3, h3']
  · have e' : ((mkS t).toList == (mkS t').toList) = false := by rw [e]; simp [h2]
    simp [go_sem, e', h2]
/-- Alike up to i. -/
def Alk {α : Type} [Inhabited α] (N M : List α) (i : Nat) : Prop := ∀ j, j < i → N[j]! = M[j]!
theorem Alk.zero {α : Type} [Inhabited α] {N M : List α} : Alk N M 0 := fun _ h => absurd h (Nat.not_lt_zero _)
theorem Alk.step {α : Type} [Inhabited α] {N M : List α} {i : Nat} (h : Alk N M i) (e : N[i]! = M[i]!) : Alk N M (i + 1) := fun j hj => by
  rcases Nat.lt_or_ge j i with h1 | h1
  · exact h j h1
  · have : j = i := by omega
    rw [this]; exact e
theorem Alk.eq {α : Type} [Inhabited α] {N M : List α} {i : Nat} (h : Alk N M i) (hl : N.length = i) (hm : M.length = i) : N = M := by
  refine List.ext_getElem (by rw [hl, hm]) fun j h1 h2 => ?_
  have := h j (by omega)
  rwa [getElem!_pos N j h1, getElem!_pos M j h2] at this
theorem alk_ne {α : Type} [Inhabited α] {N M : List α} {i : Nat} (_hl : N.length = M.length) (h : N[i]! ≠ M[i]!) : N ≠ M := fun e => h (by rw [e])
def BytN (N : List RNo) : Prop := ∀ r, r ∈ N → Byt r.text
def BytL (N : List RLt) : Prop := ∀ r, r ∈ N → Byt r.name
theorem BytN.get {N : List RNo} (h : BytN N) {i : Nat} (hi : i < N.length) : Byt N[i]!.text := by
  rw [getElem!_pos N i hi]; exact h _ (List.getElem_mem _)
theorem BytL.get {N : List RLt} (h : BytL N) {i : Nat} (hi : i < N.length) : Byt N[i]!.name := by
  rw [getElem!_pos N i hi]; exact h _ (List.getElem_mem _)
/-- Are parts the same? -/
def sameW (N M : List RNo) (Ls Ms : List RLt) (m k : Int) : Bool := decide (N = M ∧ Ls = Ms ∧ m = k)
theorem wr64_in (n : Int) (h : -9223372036854775808 ≤ n ∧ n ≤ 9223372036854775807) : wrap64 n = n := by unfold wrap64; omega
theorem bl_drewN {B : Nat} {a w : World} (h : Below B a w) (n : Nat) : Below B a (w.drewN n) := ⟨h.os, h.tape, h.output, h.size, h.block⟩
section
set_option maxRecDepth 100000 in
set_option maxHeartbeats 8000000 in
/-- filigree/lang.Same -/
theorem lSame_any {N M : List RNo} {Ls Ms : List RLt} {vN vL vM vK : Value} {m k : Int} {w : World} (hN : NodesK w.heap.size w vN N) (hL : LetsK w.heap.size w vL Ls) (hM : NodesK w.heap.size w vM M) (hK : LetsK w.heap.size w vK Ms)
    (bN : BytN N) (bM : BytN M) (bL : BytL Ls) (bK : BytL Ms) (zN : N.length ≤ 140737488355328) (zM : M.length ≤ 140737488355328) (zL : Ls.length ≤ 140737488355328) (zK : Ms.length ≤ 140737488355328) :
    Calls Tryz.prog 64 #[.agg #[vN, vL, .int .i64 m], .agg #[vM, vK, .int .i64 k]] w (fun e w' => e = .returned (.bool (sameW N M Ls Ms m k)) ∧ Below w.heap.size w w') := by
  obtain ⟨AN, cN, hvN, hNc⟩ := hN
  obtain ⟨AL, cL, hvL, hLc⟩ := hL
  obtain ⟨AM, cM, hvM, hMc⟩ := hM
  obtain ⟨AK, cK, hvK, hKc⟩ := hK
  obtain ⟨nn, hnn⟩ : ∃ n, n = N.length := ⟨_, rfl⟩
  obtain ⟨nl, hnl⟩ : ∃ n, n = Ls.length := ⟨_, rfl⟩
  obtain ⟨nm, hnm⟩ : ∃ n, n = M.length := ⟨_, rfl⟩
  obtain ⟨nk, hnk⟩ : ∃ n, n = Ms.length := ⟨_, rfl⟩
  rw [← hnn] at hvN hNc zN
  rw [← hnl] at hvL hLc zL
  rw [← hnm] at hvM hMc zM
  rw [← hnk] at hvK hKc zK
  obtain ⟨RS, hRS⟩ : ∃ r, r = sameW N M Ls Ms m k := ⟨_, rfl⟩
  rw [← hRS]
  unfold sameW at hRS
  subst hvN hvL hvM hvK
  have hb1 := Lib.hid (((Below.refl _ w).alloc (Nat.le_refl _) (.cells #[.slice AN nn cN, .slice AL nl cL, .int .i64 m] 25)).alloc (by simp) (.cells #[.slice AM nm cM, .slice AK nk cK, .int .i64 k] 25))
  have kp := Lib.hid ((Blk.new w 25 #[.slice AN nn cN, .slice AL nl cL, .int .i64 m]).alloc (.cells #[.slice AM nm cM, .slice AK nk cK, .int .i64 k] 25))
  have kq0 := Blk.new (w.alloc (.cells #[.slice AN nn cN, .slice AL nl cL, .int .i64 m] 25)) 25 #[.slice AM nm cM, .slice AK nk cK, .int .i64 k]
  rw [World.size_alloc] at kq0
  have kq := Lib.hid kq0
  clear kq0
  replace hnn := Lib.hid hnn
  replace hnl := Lib.hid hnl
  replace hnm := Lib.hid hnm
  replace hnk := Lib.hid hnk
  replace hNc := Lib.hid hNc
  replace hLc := Lib.hid hLc
  replace hMc := Lib.hid hMc
  replace hKc := Lib.hid hKc
  replace bN := Lib.hid bN
  replace bM := Lib.hid bM
  replace bL := Lib.hid bL
  replace bK := Lib.hid bK
  replace zN := Lib.hid zN
  replace zM := Lib.hid zM
  replace zL := Lib.hid zL
  replace zK := Lib.hid zK
  replace hRS := Lib.hid hRS
  go_enter Tryz.func64, Tryz.ntmps64
  go_upto_region 1 with fail
  generalize hW : (w.alloc (.cells #[.slice AN nn cN, .slice AL nl cL, .int .i64 m] 25)).alloc (.cells #[.slice AM nm cM, .slice AK nk cK, .int .i64 k] 25) = w1 at hb1 kp kq ⊢
  replace hW := Lib.hid hW
  have p0 : w1.cell? ⟨w.heap.size, 0, none⟩ = some (.slice AN nn cN) := kp.out.cell 0
  have p1 : w1.cell? ⟨w.heap.size, 1, none⟩ = some (.slice AL nl cL) := kp.out.cell 1
  have p2 : w1.cell? ⟨w.heap.size, 2, none⟩ = some (.int .i64 m) := kp.out.cell 2
  have q0 : w1.cell? ⟨w.heap.size + 1, 0, none⟩ = some (.slice AM nm cM) := kq.out.cell 0
  have q1 : w1.cell? ⟨w.heap.size + 1, 1, none⟩ = some (.slice AK nk cK) := kq.out.cell 1
  have q2 : w1.cell? ⟨w.heap.size + 1, 2, none⟩ = some (.int .i64 k) := kq.out.cell 2
  by_cases hc : nn = nm
  case neg =>
    have hI0 : ((nn : Int) != (nm : Int)) = true := by rw [bne_iff_ne]; omega
    have hRf : RS = false := by rw [hRS.out]; exact decide_eq_false (fun h => hc (by rw [hnn.out, hnm.out, h.1]))
    subst hRf
    clear hc
    go_wp2_with fail
    go_ret
    first | exact ⟨rfl, hb1.out⟩ | exact hb1.out
  case pos =>
    have hI0 : ((nn : Int) != (nm : Int)) = false := by rw [bne_eq_false_iff_eq]; omega
    have hc0 := Lib.hid hc
    clear hc
    by_cases hc : nl = nk
    case neg =>
      have hI1 : ((nl : Int) != (nk : Int)) = true := by rw [bne_iff_ne]; omega
      have hRf : RS = false := by rw [hRS.out]; exact decide_eq_false (fun h => hc (by rw [hnl.out, hnk.out, h.2.1]))
      subst hRf
      clear hc
      go_wp2_with fail
      go_ret
      first | exact ⟨rfl, hb1.out⟩ | exact hb1.out
    case pos =>
      have hI1 : ((nl : Int) != (nk : Int)) = false := by rw [bne_eq_false_iff_eq]; omega
      have hc1 := Lib.hid hc
      clear hc
      by_cases hc : m = k
      case neg =>
        have hI2 : (m != k) = true := by rw [bne_iff_ne]; exact hc
        have hRf : RS = false := by rw [hRS.out]; exact decide_eq_false (fun h => hc h.2.2)
        subst hRf
        clear hc
        go_wp2_with fail
        go_ret
        first | exact ⟨rfl, hb1.out⟩ | exact hb1.out
      case pos =>
        have hI2 : (m != k) = false := by rw [bne_eq_false_iff_eq]; exact hc
        have hc2 := Lib.hid hc
        clear hc
        clear p0 p1 p2 q0 q1 q2
        have p0 : w1.cell? ⟨w.heap.size, 0, none⟩ = some (.slice AN nn cN) := kp.out.cell 0
        have p1 : w1.cell? ⟨w.heap.size, 1, none⟩ = some (.slice AL nl cL) := kp.out.cell 1
        have p2 : w1.cell? ⟨w.heap.size, 2, none⟩ = some (.int .i64 m) := kp.out.cell 2
        have q0 : w1.cell? ⟨w.heap.size + 1, 0, none⟩ = some (.slice AM nm cM) := kq.out.cell 0
        have q1 : w1.cell? ⟨w.heap.size + 1, 1, none⟩ = some (.slice AK nk cK) := kq.out.cell 1
        have q2 : w1.cell? ⟨w.heap.size + 1, 2, none⟩ = some (.int .i64 k) := kq.out.cell 2
        go_wp2_with fail
        go_loopg [35] nn (fun kx s35 wr => ∃ (i : Nat), s35 = .int .i64 (i : Int) ∧ Hid (i + kx = nn) ∧ Hid (Alk N M i) ∧ Hid (Below w.heap.size w wr) ∧ Hid (Blk wr w.heap.size 25 #[.slice AN nn cN, .slice AL nl cL, .int .i64 m]) ∧ Hid (Blk wr (w.heap.size + 1) 25 #[.slice AM nm cM, .slice AK nk cK, .int .i64 k]))
        case atStart => exact ⟨0, rfl, Lib.hid (by omega), Lib.hid Alk.zero, hb1, kp, kq⟩
        case round =>
          obtain ⟨i, rfl, hik, hA, hB, hP, hQ⟩ := hrel
          clear p0 p1 p2 q0 q1 q2
          have l0 : wr.cell? ⟨w.heap.size, 0, none⟩ = some (.slice AN nn cN) := hP.out.cell 0
          have l1 : wr.cell? ⟨w.heap.size, 1, none⟩ = some (.slice AL nl cL) := hP.out.cell 1
          have l2 : wr.cell? ⟨w.heap.size + 1, 0, none⟩ = some (.slice AM nm cM) := hQ.out.cell 0
          have l3 : wr.cell? ⟨w.heap.size + 1, 1, none⟩ = some (.slice AK nk cK) := hQ.out.cell 1
          by_cases hin : i < nn
          case pos =>
            have hin2 : i < nm := by have := hc0.out; omega
            obtain ⟨g, o, hAN, hgB, hNc2⟩ := hNc.out (by omega)
            obtain ⟨g2, o2, hAM, hgB2, hMc2⟩ := hMc.out (by omega)
            subst hAN hAM
            obtain ⟨r, hr⟩ : ∃ r, r = N[i]! := ⟨_, rfl⟩
            obtain ⟨s, hs⟩ : ∃ r, r = M[i]! := ⟨_, rfl⟩
            have hbr : Byt r.text := by rw [hr]; exact BytN.get bN.out (by have := hnn.out; omega)
            have hbs : Byt s.text := by rw [hs]; exact BytN.get bM.out (by have := hnm.out; omega)
            replace hr := Lib.hid hr
            replace hs := Lib.hid hs
            have hcl := fun (j : Nat) (u : Value) (hu : (encR r)[j]? = some u) => (hB.out.cell (show (⟨g, o + i * 5 + j, none⟩ : Addr).block < w.heap.size from hgB)).trans (hNc2 i hin j u (by rw [← hr.out]; exact hu))
            have hcm := fun (j : Nat) (u : Value) (hu : (encR s)[j]? = some u) => (hB.out.cell (show (⟨g2, o2 + i * 5 + j, none⟩ : Addr).block < w.heap.size from hgB2)).trans (hMc2 i hin2 j u (by rw [← hs.out]; exact hu))
            have x0 : wr.cell? ⟨g, o + i * 5, none⟩ = some (.int .u8 (r.kind : Int)) := hcl 0 _ rfl
            have x1 : wr.cell? ⟨g, o + i * 5 + 1, none⟩ = some (.string (mkS r.text)) := hcl 1 _ rfl
            have x2 : wr.cell? ⟨g, o + i * 5 + 2, none⟩ = some (.int .i64 r.a) := hcl 2 _ rfl
            have x3 : wr.cell? ⟨g, o + i * 5 + 3, none⟩ = some (.int .i64 r.b) := hcl 3 _ rfl
            have x4 : wr.cell? ⟨g, o + i * 5 + 4, none⟩ = some (.int .i64 r.n) := hcl 4 _ rfl
            have y0 : wr.cell? ⟨g2, o2 + i * 5, none⟩ = some (.int .u8 (s.kind : Int)) := hcm 0 _ rfl
            have y1 : wr.cell? ⟨g2, o2 + i * 5 + 1, none⟩ = some (.string (mkS s.text)) := hcm 1 _ rfl
            have y2 : wr.cell? ⟨g2, o2 + i * 5 + 2, none⟩ = some (.int .i64 s.a) := hcm 2 _ rfl
            have y3 : wr.cell? ⟨g2, o2 + i * 5 + 3, none⟩ = some (.int .i64 s.b) := hcm 3 _ rfl
            have y4 : wr.cell? ⟨g2, o2 + i * 5 + 4, none⟩ = some (.int .i64 s.n) := hcm 4 _ rfl
            have kb := Lib.hid (Blk.new wr 52 #[.int .u8 (r.kind : Int), .string (mkS r.text), .int .i64 r.a, .int .i64 r.b, .int .i64 r.n])
            have hB3 := Lib.hid (hB.out.alloc hB.out.size (.cells #[.int .u8 (r.kind : Int), .string (mkS r.text), .int .i64 r.a, .int .i64 r.b, .int .i64 r.n] 52))
            have hP3 := Lib.hid (hP.out.alloc (.cells #[.int .u8 (r.kind : Int), .string (mkS r.text), .int .i64 r.a, .int .i64 r.b, .int .i64 r.n] 52))
            have hQ3 := Lib.hid (hQ.out.alloc (.cells #[.int .u8 (r.kind : Int), .string (mkS r.text), .int .i64 r.a, .int .i64 r.b, .int .i64 r.n] 52))
            replace hcm := Lib.hid hcm
            clear hcl hNc2 y0 y1 y2 y3 y4
            go_upto_region 6 with fail
            generalize hWq : wr.alloc (.cells #[.int .u8 (r.kind : Int), .string (mkS r.text), .int .i64 r.a, .int .i64 r.b, .int .i64 r.n] 52) = w2 at kb hB3 hP3 hQ3 ⊢
            generalize hgq : wr.heap.size = bx at kb ⊢
            replace hWq := Lib.hid hWq
            replace hgq := Lib.hid hgq
            clear l0 l1 l2 l3 x0 x1 x2 x3 x4
            have l0 : w2.cell? ⟨w.heap.size + 1, 0, none⟩ = some (.slice (some ⟨g2, o2, none⟩) nm cM) := hQ3.out.cell 0
            have hcm3 := fun (j : Nat) (u : Value) (hu : (encR s)[j]? = some u) => (hB3.out.cell (show (⟨g2, o2 + i * 5 + j, none⟩ : Addr).block < w.heap.size from hgB2)).trans (hMc2 i hin2 j u (by rw [← hs.out]; exact hu))
            have x0 : w2.cell? ⟨bx, 0, none⟩ = some (.int .u8 (r.kind : Int)) := kb.out.cell 0
            have x1 : w2.cell? ⟨bx, 1, none⟩ = some (.string (mkS r.text)) := kb.out.cell 1
            have x2 : w2.cell? ⟨bx, 2, none⟩ = some (.int .i64 r.a) := kb.out.cell 2
            have x3 : w2.cell? ⟨bx, 3, none⟩ = some (.int .i64 r.b) := kb.out.cell 3
            have x4 : w2.cell? ⟨bx, 4, none⟩ = some (.int .i64 r.n) := kb.out.cell 4
            have y0 : w2.cell? ⟨g2, o2 + i * 5, none⟩ = some (.int .u8 (s.kind : Int)) := hcm3 0 _ rfl
            have y1 : w2.cell? ⟨g2, o2 + i * 5 + 1, none⟩ = some (.string (mkS s.text)) := hcm3 1 _ rfl
            have y2 : w2.cell? ⟨g2, o2 + i * 5 + 2, none⟩ = some (.int .i64 s.a) := hcm3 2 _ rfl
            have y3 : w2.cell? ⟨g2, o2 + i * 5 + 3, none⟩ = some (.int .i64 s.b) := hcm3 3 _ rfl
            have y4 : w2.cell? ⟨g2, o2 + i * 5 + 4, none⟩ = some (.int .i64 s.n) := hcm3 4 _ rfl
            clear hcm hcm3 hMc2
            have gx0 : ∀ d os, (grow (redrawn w2 d) os).cell? ⟨bx, 0, none⟩ = some (.int .u8 (r.kind : Int)) := cell_regrown x0
            have gx1 : ∀ d os, (grow (redrawn w2 d) os).cell? ⟨bx, 1, none⟩ = some (.string (mkS r.text)) := cell_regrown x1
            have gx2 : ∀ d os, (grow (redrawn w2 d) os).cell? ⟨bx, 2, none⟩ = some (.int .i64 r.a) := cell_regrown x2
            have gx3 : ∀ d os, (grow (redrawn w2 d) os).cell? ⟨bx, 3, none⟩ = some (.int .i64 r.b) := cell_regrown x3
            have gx4 : ∀ d os, (grow (redrawn w2 d) os).cell? ⟨bx, 4, none⟩ = some (.int .i64 r.n) := cell_regrown x4
            have gy0 : ∀ d os, (grow (redrawn w2 d) os).cell? ⟨g2, o2 + i * 5, none⟩ = some (.int .u8 (s.kind : Int)) := cell_regrown y0
            have gy1 : ∀ d os, (grow (redrawn w2 d) os).cell? ⟨g2, o2 + i * 5 + 1, none⟩ = some (.string (mkS s.text)) := cell_regrown y1
            have gy2 : ∀ d os, (grow (redrawn w2 d) os).cell? ⟨g2, o2 + i * 5 + 2, none⟩ = some (.int .i64 s.a) := cell_regrown y2
            have gy3 : ∀ d os, (grow (redrawn w2 d) os).cell? ⟨g2, o2 + i * 5 + 3, none⟩ = some (.int .i64 s.b) := cell_regrown y3
            have gy4 : ∀ d os, (grow (redrawn w2 d) os).cell? ⟨g2, o2 + i * 5 + 4, none⟩ = some (.int .i64 s.n) := cell_regrown y4
            have hq0 := fun (d : Bool) hd => neq_node hbr hbs (d := d) hd
            clear hbr hbs
            by_cases he : r = s
            case pos =>
              have hA2 := Lib.hid (hA.out.step (by rw [← hr.out, ← hs.out]; exact he))
              have hq := hq0 false (by rw [he]; simp)
              replace he := Lib.hid he
              clear hq0
              go_upto_region 6 with fail
              go_quiet (fail)
              go_wp2_with fail
              go_roundg (gk - 1)
              case measure =>
                have := hik.out
                omega
              case rel => exact ⟨i + 1, by (have hib : i < 140737488355328 := by (have := zN.out; omega)); rw [wr64_in _ (by omega)]; rfl, Lib.hid (by have := hik.out; omega), hA2, Lib.hid (bl_drewN hB3.out _), Lib.hid (hP3.out.drewN _), Lib.hid (hQ3.out.drewN _)⟩
            case neg =>
              have hne : N[i]! ≠ M[i]! := by rw [← hr.out, ← hs.out]; exact he
              have hRf : RS = false := by rw [hRS.out]; exact decide_eq_false (fun h => alk_ne (by have := hnn.out; have := hnm.out; have := hc0.out; omega) hne h.1)
              have hq := hq0 true (by simp [he])
              replace he := Lib.hid he
              clear hq0 hne
              subst hRf
              go_upto_region 6 with fail
              go_quiet (fail)
              go_wp2_with fail
              go_ret
              first | exact ⟨rfl, bl_drewN hB3.out _⟩ | exact bl_drewN hB3.out _
          case neg =>
            have hi : i = nn := by have := hik.out; omega
            have hE0 : Hid (N = M) := Lib.hid (hA.out.eq (by have := hnn.out; omega) (by have := hnm.out; have := hc0.out; omega))
            generalize hWr : wr = wz at hB hP hQ l0 l1 l2 l3 ⊢
            replace hi := Lib.hid hi
            clear hWr hik hA
            go_wp2_with fail
            go_loopg [51] nl (fun kx s51 wr => ∃ (i : Nat), s51 = .int .i64 (i : Int) ∧ Hid (i + kx = nl) ∧ Hid (Alk Ls Ms i) ∧ Hid (Below w.heap.size w wr) ∧ Hid (Blk wr w.heap.size 25 #[.slice AN nn cN, .slice AL nl cL, .int .i64 m]) ∧ Hid (Blk wr (w.heap.size + 1) 25 #[.slice AM nm cM, .slice AK nk cK, .int .i64 k]))
            case atStart => exact ⟨0, rfl, Lib.hid (by omega), Lib.hid Alk.zero, hB, hP, hQ⟩
            case round =>
              obtain ⟨i, rfl, hik, hA, hB2, hP2, hQ2⟩ := hrel
              skip
              clear l0 l1 l2 l3
              have l0 : wr.cell? ⟨w.heap.size, 0, none⟩ = some (.slice AN nn cN) := hP2.out.cell 0
              have l1 : wr.cell? ⟨w.heap.size, 1, none⟩ = some (.slice AL nl cL) := hP2.out.cell 1
              have l2 : wr.cell? ⟨w.heap.size + 1, 0, none⟩ = some (.slice AM nm cM) := hQ2.out.cell 0
              have l3 : wr.cell? ⟨w.heap.size + 1, 1, none⟩ = some (.slice AK nk cK) := hQ2.out.cell 1
              by_cases hin : i < nl
              case pos =>
                have hin2 : i < nk := by have := hc1.out; omega
                obtain ⟨g, o, hAN, hgB, hNc2⟩ := hLc.out (by omega)
                obtain ⟨g2, o2, hAM, hgB2, hMc2⟩ := hKc.out (by omega)
                subst hAN hAM
                obtain ⟨r, hr⟩ : ∃ r, r = Ls[i]! := ⟨_, rfl⟩
                obtain ⟨s, hs⟩ : ∃ r, r = Ms[i]! := ⟨_, rfl⟩
                have hbr : Byt r.name := by rw [hr]; exact BytL.get bL.out (by have := hnl.out; omega)
                have hbs : Byt s.name := by rw [hs]; exact BytL.get bK.out (by have := hnk.out; omega)
                replace hr := Lib.hid hr
                replace hs := Lib.hid hs
                have hcl := fun (j : Nat) (u : Value) (hu : (encRL r)[j]? = some u) => (hB2.out.cell (show (⟨g, o + i * 2 + j, none⟩ : Addr).block < w.heap.size from hgB)).trans (hNc2 i hin j u (by rw [← hr.out]; exact hu))
                have hcm := fun (j : Nat) (u : Value) (hu : (encRL s)[j]? = some u) => (hB2.out.cell (show (⟨g2, o2 + i * 2 + j, none⟩ : Addr).block < w.heap.size from hgB2)).trans (hMc2 i hin2 j u (by rw [← hs.out]; exact hu))
                have x0 : wr.cell? ⟨g, o + i * 2, none⟩ = some (.string (mkS r.name)) := hcl 0 _ rfl
                have x1 : wr.cell? ⟨g, o + i * 2 + 1, none⟩ = some (.int .i64 r.at_) := hcl 1 _ rfl
                have y0 : wr.cell? ⟨g2, o2 + i * 2, none⟩ = some (.string (mkS s.name)) := hcm 0 _ rfl
                have y1 : wr.cell? ⟨g2, o2 + i * 2 + 1, none⟩ = some (.int .i64 s.at_) := hcm 1 _ rfl
                have kb := Lib.hid (Blk.new wr 54 #[.string (mkS r.name), .int .i64 r.at_])
                have hB3 := Lib.hid (hB2.out.alloc hB2.out.size (.cells #[.string (mkS r.name), .int .i64 r.at_] 54))
                have hP3 := Lib.hid (hP2.out.alloc (.cells #[.string (mkS r.name), .int .i64 r.at_] 54))
                have hQ3 := Lib.hid (hQ2.out.alloc (.cells #[.string (mkS r.name), .int .i64 r.at_] 54))
                replace hcm := Lib.hid hcm
                clear hcl hNc2 y0 y1
                go_upto_region 12 with fail
                generalize hWq : wr.alloc (.cells #[.string (mkS r.name), .int .i64 r.at_] 54) = w2 at kb hB3 hP3 hQ3 ⊢
                generalize hgq : wr.heap.size = bx at kb ⊢
                replace hWq := Lib.hid hWq
                replace hgq := Lib.hid hgq
                clear l0 l1 l2 l3 x0 x1
                have l0 : w2.cell? ⟨w.heap.size + 1, 1, none⟩ = some (.slice (some ⟨g2, o2, none⟩) nk cK) := hQ3.out.cell 1
                have hcm3 := fun (j : Nat) (u : Value) (hu : (encRL s)[j]? = some u) => (hB3.out.cell (show (⟨g2, o2 + i * 2 + j, none⟩ : Addr).block < w.heap.size from hgB2)).trans (hMc2 i hin2 j u (by rw [← hs.out]; exact hu))
                have x0 : w2.cell? ⟨bx, 0, none⟩ = some (.string (mkS r.name)) := kb.out.cell 0
                have x1 : w2.cell? ⟨bx, 1, none⟩ = some (.int .i64 r.at_) := kb.out.cell 1
                have y0 : w2.cell? ⟨g2, o2 + i * 2, none⟩ = some (.string (mkS s.name)) := hcm3 0 _ rfl
                have y1 : w2.cell? ⟨g2, o2 + i * 2 + 1, none⟩ = some (.int .i64 s.at_) := hcm3 1 _ rfl
                clear hcm hcm3 hMc2
                have gx0 : ∀ d os, (grow (redrawn w2 d) os).cell? ⟨bx, 0, none⟩ = some (.string (mkS r.name)) := cell_regrown x0
                have gx1 : ∀ d os, (grow (redrawn w2 d) os).cell? ⟨bx, 1, none⟩ = some (.int .i64 r.at_) := cell_regrown x1
                have gy0 : ∀ d os, (grow (redrawn w2 d) os).cell? ⟨g2, o2 + i * 2, none⟩ = some (.string (mkS s.name)) := cell_regrown y0
                have gy1 : ∀ d os, (grow (redrawn w2 d) os).cell? ⟨g2, o2 + i * 2 + 1, none⟩ = some (.int .i64 s.at_) := cell_regrown y1
                have hq0 := fun (d : Bool) hd => neq_let hbr hbs (d := d) hd
                clear hbr hbs
                by_cases he : r = s
                case pos =>
                  have hA2 := Lib.hid (hA.out.step (by rw [← hr.out, ← hs.out]; exact he))
                  have hq := hq0 false (by rw [he]; simp)
                  replace he := Lib.hid he
                  clear hq0
                  go_upto_region 12 with fail
                  go_quiet (fail)
                  go_wp2_with fail
                  go_roundg (gk - 1)
                  case measure =>
                    have := hik.out
                    omega
                  case rel => exact ⟨i + 1, by (have hib : i < 140737488355328 := by (have := zL.out; omega)); rw [wr64_in _ (by omega)]; rfl, Lib.hid (by have := hik.out; omega), hA2, Lib.hid (bl_drewN hB3.out _), Lib.hid (hP3.out.drewN _), Lib.hid (hQ3.out.drewN _)⟩
                case neg =>
                  have hne : Ls[i]! ≠ Ms[i]! := by rw [← hr.out, ← hs.out]; exact he
                  have hRf : RS = false := by rw [hRS.out]; exact decide_eq_false (fun h => alk_ne (by have := hnl.out; have := hnk.out; have := hc1.out; omega) hne h.2.1)
                  have hq := hq0 true (by simp [he])
                  replace he := Lib.hid he
                  clear hq0 hne
                  subst hRf
                  go_upto_region 12 with fail
                  go_quiet (fail)
                  go_wp2_with fail
                  go_ret
                  first | exact ⟨rfl, bl_drewN hB3.out _⟩ | exact bl_drewN hB3.out _
              case neg =>
                have hi : i = nl := by have := hik.out; omega
                have hE1 : Hid (Ls = Ms) := Lib.hid (hA.out.eq (by have := hnl.out; omega) (by have := hnk.out; have := hc1.out; omega))
                have hRt : RS = true := by rw [hRS.out]; exact decide_eq_true ⟨hE0.out, hE1.out, hc2.out⟩
                subst hRt
                replace hi := Lib.hid hi
                go_wp2_with fail
                go_ret
                first | exact ⟨rfl, hB2.out⟩ | exact hB2.out
set_option maxRecDepth 100000 in
set_option maxHeartbeats 8000000 in
/-- filigree/filigreeref11.Same -/
theorem rSame_any {N M : List RNo} {Ls Ms : List RLt} {vN vL vM vK : Value} {m k : Int} {w : World} (hN : NodesK w.heap.size w vN N) (hL : LetsK w.heap.size w vL Ls) (hM : NodesK w.heap.size w vM M) (hK : LetsK w.heap.size w vK Ms)
    (bN : BytN N) (bM : BytN M) (bL : BytL Ls) (bK : BytL Ms) (zN : N.length ≤ 140737488355328) (zM : M.length ≤ 140737488355328) (zL : Ls.length ≤ 140737488355328) (zK : Ms.length ≤ 140737488355328) :
    Calls Tryz.prog 6 #[.agg #[vN, vL, .int .i64 m], .agg #[vM, vK, .int .i64 k]] w (fun e w' => e = .returned (.bool (sameW N M Ls Ms m k)) ∧ Below w.heap.size w w') := by
  obtain ⟨AN, cN, hvN, hNc⟩ := hN
  obtain ⟨AL, cL, hvL, hLc⟩ := hL
  obtain ⟨AM, cM, hvM, hMc⟩ := hM
  obtain ⟨AK, cK, hvK, hKc⟩ := hK
  obtain ⟨nn, hnn⟩ : ∃ n, n = N.length := ⟨_, rfl⟩
  obtain ⟨nl, hnl⟩ : ∃ n, n = Ls.length := ⟨_, rfl⟩
  obtain ⟨nm, hnm⟩ : ∃ n, n = M.length := ⟨_, rfl⟩
  obtain ⟨nk, hnk⟩ : ∃ n, n = Ms.length := ⟨_, rfl⟩
  rw [← hnn] at hvN hNc zN
  rw [← hnl] at hvL hLc zL
  rw [← hnm] at hvM hMc zM
  rw [← hnk] at hvK hKc zK
  obtain ⟨RS, hRS⟩ : ∃ r, r = sameW N M Ls Ms m k := ⟨_, rfl⟩
  rw [← hRS]
  unfold sameW at hRS
  subst hvN hvL hvM hvK
  have hb1 := Lib.hid (((Below.refl _ w).alloc (Nat.le_refl _) (.cells #[.slice AN nn cN, .slice AL nl cL, .int .i64 m] 25)).alloc (by simp) (.cells #[.slice AM nm cM, .slice AK nk cK, .int .i64 k] 25))
  have kp := Lib.hid ((Blk.new w 25 #[.slice AN nn cN, .slice AL nl cL, .int .i64 m]).alloc (.cells #[.slice AM nm cM, .slice AK nk cK, .int .i64 k] 25))
  have kq0 := Blk.new (w.alloc (.cells #[.slice AN nn cN, .slice AL nl cL, .int .i64 m] 25)) 25 #[.slice AM nm cM, .slice AK nk cK, .int .i64 k]
  rw [World.size_alloc] at kq0
  have kq := Lib.hid kq0
  clear kq0
  replace hnn := Lib.hid hnn
  replace hnl := Lib.hid hnl
  replace hnm := Lib.hid hnm
  replace hnk := Lib.hid hnk
  replace hNc := Lib.hid hNc
  replace hLc := Lib.hid hLc
  replace hMc := Lib.hid hMc
  replace hKc := Lib.hid hKc
  replace bN := Lib.hid bN
  replace bM := Lib.hid bM
  replace bL := Lib.hid bL
  replace bK := Lib.hid bK
  replace zN := Lib.hid zN
  replace zM := Lib.hid zM
  replace zL := Lib.hid zL
  replace zK := Lib.hid zK
  replace hRS := Lib.hid hRS
  go_enter Tryz.func6, Tryz.ntmps6
  go_upto_region 1 with fail
  generalize hW : (w.alloc (.cells #[.slice AN nn cN, .slice AL nl cL, .int .i64 m] 25)).alloc (.cells #[.slice AM nm cM, .slice AK nk cK, .int .i64 k] 25) = w1 at hb1 kp kq ⊢
  replace hW := Lib.hid hW
  have p0 : w1.cell? ⟨w.heap.size, 0, none⟩ = some (.slice AN nn cN) := kp.out.cell 0
  have p1 : w1.cell? ⟨w.heap.size, 1, none⟩ = some (.slice AL nl cL) := kp.out.cell 1
  have p2 : w1.cell? ⟨w.heap.size, 2, none⟩ = some (.int .i64 m) := kp.out.cell 2
  have q0 : w1.cell? ⟨w.heap.size + 1, 0, none⟩ = some (.slice AM nm cM) := kq.out.cell 0
  have q1 : w1.cell? ⟨w.heap.size + 1, 1, none⟩ = some (.slice AK nk cK) := kq.out.cell 1
  have q2 : w1.cell? ⟨w.heap.size + 1, 2, none⟩ = some (.int .i64 k) := kq.out.cell 2
  by_cases hc : nn = nm
  case neg =>
    have hI0 : ((nn : Int) != (nm : Int)) = true := by rw [bne_iff_ne]; omega
    have hRf : RS = false := by rw [hRS.out]; exact decide_eq_false (fun h => hc (by rw [hnn.out, hnm.out, h.1]))
    subst hRf
    clear hc
    go_wp2_with fail
    go_ret
    first | exact ⟨rfl, hb1.out⟩ | exact hb1.out
  case pos =>
    have hI0 : ((nn : Int) != (nm : Int)) = false := by rw [bne_eq_false_iff_eq]; omega
    have hc0 := Lib.hid hc
    clear hc
    by_cases hc : nl = nk
    case neg =>
      have hI1 : ((nl : Int) != (nk : Int)) = true := by rw [bne_iff_ne]; omega
      have hRf : RS = false := by rw [hRS.out]; exact decide_eq_false (fun h => hc (by rw [hnl.out, hnk.out, h.2.1]))
      subst hRf
      clear hc
      go_wp2_with fail
      go_ret
      first | exact ⟨rfl, hb1.out⟩ | exact hb1.out
    case pos =>
      have hI1 : ((nl : Int) != (nk : Int)) = false := by rw [bne_eq_false_iff_eq]; omega
      have hc1 := Lib.hid hc
      clear hc
      by_cases hc : m = k
      case neg =>
        have hI2 : (m != k) = true := by rw [bne_iff_ne]; exact hc
        have hRf : RS = false := by rw [hRS.out]; exact decide_eq_false (fun h => hc h.2.2)
        subst hRf
        clear hc
        go_wp2_with fail
        go_ret
        first | exact ⟨rfl, hb1.out⟩ | exact hb1.out
      case pos =>
        have hI2 : (m != k) = false := by rw [bne_eq_false_iff_eq]; exact hc
        have hc2 := Lib.hid hc
        clear hc
        clear p0 p1 p2 q0 q1 q2
        have p0 : w1.cell? ⟨w.heap.size, 0, none⟩ = some (.slice AN nn cN) := kp.out.cell 0
        have p1 : w1.cell? ⟨w.heap.size, 1, none⟩ = some (.slice AL nl cL) := kp.out.cell 1
        have p2 : w1.cell? ⟨w.heap.size, 2, none⟩ = some (.int .i64 m) := kp.out.cell 2
        have q0 : w1.cell? ⟨w.heap.size + 1, 0, none⟩ = some (.slice AM nm cM) := kq.out.cell 0
        have q1 : w1.cell? ⟨w.heap.size + 1, 1, none⟩ = some (.slice AK nk cK) := kq.out.cell 1
        have q2 : w1.cell? ⟨w.heap.size + 1, 2, none⟩ = some (.int .i64 k) := kq.out.cell 2
        go_wp2_with fail
        go_loopg [5] nn (fun kx s5 wr => ∃ (i : Nat), s5 = .int .i64 (i : Int) ∧ Hid (i + kx = nn) ∧ Hid (Alk N M i) ∧ Hid (Below w.heap.size w wr) ∧ Hid (Blk wr w.heap.size 25 #[.slice AN nn cN, .slice AL nl cL, .int .i64 m]) ∧ Hid (Blk wr (w.heap.size + 1) 25 #[.slice AM nm cM, .slice AK nk cK, .int .i64 k]))
        case atStart => exact ⟨0, rfl, Lib.hid (by omega), Lib.hid Alk.zero, hb1, kp, kq⟩
        case round =>
          obtain ⟨i, rfl, hik, hA, hB, hP, hQ⟩ := hrel
          clear p0 p1 p2 q0 q1 q2
          have l0 : wr.cell? ⟨w.heap.size, 0, none⟩ = some (.slice AN nn cN) := hP.out.cell 0
          have l1 : wr.cell? ⟨w.heap.size, 1, none⟩ = some (.slice AL nl cL) := hP.out.cell 1
          have l2 : wr.cell? ⟨w.heap.size + 1, 0, none⟩ = some (.slice AM nm cM) := hQ.out.cell 0
          have l3 : wr.cell? ⟨w.heap.size + 1, 1, none⟩ = some (.slice AK nk cK) := hQ.out.cell 1
          by_cases hin : i < nn
          case pos =>
            have hin2 : i < nm := by have := hc0.out; omega
            obtain ⟨g, o, hAN, hgB, hNc2⟩ := hNc.out (by omega)
            obtain ⟨g2, o2, hAM, hgB2, hMc2⟩ := hMc.out (by omega)
            subst hAN hAM
            obtain ⟨r, hr⟩ : ∃ r, r = N[i]! := ⟨_, rfl⟩
            obtain ⟨s, hs⟩ : ∃ r, r = M[i]! := ⟨_, rfl⟩
            have hbr : Byt r.text := by rw [hr]; exact BytN.get bN.out (by have := hnn.out; omega)
            have hbs : Byt s.text := by rw [hs]; exact BytN.get bM.out (by have := hnm.out; omega)
            replace hr := Lib.hid hr
            replace hs := Lib.hid hs
            have hcl := fun (j : Nat) (u : Value) (hu : (encR r)[j]? = some u) => (hB.out.cell (show (⟨g, o + i * 5 + j, none⟩ : Addr).block < w.heap.size from hgB)).trans (hNc2 i hin j u (by rw [← hr.out]; exact hu))
            have hcm := fun (j : Nat) (u : Value) (hu : (encR s)[j]? = some u) => (hB.out.cell (show (⟨g2, o2 + i * 5 + j, none⟩ : Addr).block < w.heap.size from hgB2)).trans (hMc2 i hin2 j u (by rw [← hs.out]; exact hu))
            have x0 : wr.cell? ⟨g, o + i * 5, none⟩ = some (.int .u8 (r.kind : Int)) := hcl 0 _ rfl
            have x1 : wr.cell? ⟨g, o + i * 5 + 1, none⟩ = some (.string (mkS r.text)) := hcl 1 _ rfl
            have x2 : wr.cell? ⟨g, o + i * 5 + 2, none⟩ = some (.int .i64 r.a) := hcl 2 _ rfl
            have x3 : wr.cell? ⟨g, o + i * 5 + 3, none⟩ = some (.int .i64 r.b) := hcl 3 _ rfl
            have x4 : wr.cell? ⟨g, o + i * 5 + 4, none⟩ = some (.int .i64 r.n) := hcl 4 _ rfl
            have y0 : wr.cell? ⟨g2, o2 + i * 5, none⟩ = some (.int .u8 (s.kind : Int)) := hcm 0 _ rfl
            have y1 : wr.cell? ⟨g2, o2 + i * 5 + 1, none⟩ = some (.string (mkS s.text)) := hcm 1 _ rfl
            have y2 : wr.cell? ⟨g2, o2 + i * 5 + 2, none⟩ = some (.int .i64 s.a) := hcm 2 _ rfl
            have y3 : wr.cell? ⟨g2, o2 + i * 5 + 3, none⟩ = some (.int .i64 s.b) := hcm 3 _ rfl
            have y4 : wr.cell? ⟨g2, o2 + i * 5 + 4, none⟩ = some (.int .i64 s.n) := hcm 4 _ rfl
            clear hcl hcm hNc2 hMc2
            have gx0 : ∀ d os, (grow (redrawn wr d) os).cell? ⟨g, o + i * 5, none⟩ = some (.int .u8 (r.kind : Int)) := cell_regrown x0
            have gx1 : ∀ d os, (grow (redrawn wr d) os).cell? ⟨g, o + i * 5 + 1, none⟩ = some (.string (mkS r.text)) := cell_regrown x1
            have gx2 : ∀ d os, (grow (redrawn wr d) os).cell? ⟨g, o + i * 5 + 2, none⟩ = some (.int .i64 r.a) := cell_regrown x2
            have gx3 : ∀ d os, (grow (redrawn wr d) os).cell? ⟨g, o + i * 5 + 3, none⟩ = some (.int .i64 r.b) := cell_regrown x3
            have gx4 : ∀ d os, (grow (redrawn wr d) os).cell? ⟨g, o + i * 5 + 4, none⟩ = some (.int .i64 r.n) := cell_regrown x4
            have gy0 : ∀ d os, (grow (redrawn wr d) os).cell? ⟨g2, o2 + i * 5, none⟩ = some (.int .u8 (s.kind : Int)) := cell_regrown y0
            have gy1 : ∀ d os, (grow (redrawn wr d) os).cell? ⟨g2, o2 + i * 5 + 1, none⟩ = some (.string (mkS s.text)) := cell_regrown y1
            have gy2 : ∀ d os, (grow (redrawn wr d) os).cell? ⟨g2, o2 + i * 5 + 2, none⟩ = some (.int .i64 s.a) := cell_regrown y2
            have gy3 : ∀ d os, (grow (redrawn wr d) os).cell? ⟨g2, o2 + i * 5 + 3, none⟩ = some (.int .i64 s.b) := cell_regrown y3
            have gy4 : ∀ d os, (grow (redrawn wr d) os).cell? ⟨g2, o2 + i * 5 + 4, none⟩ = some (.int .i64 s.n) := cell_regrown y4
            have hq0 := fun (d : Bool) hd => neq_node hbr hbs (d := d) hd
            clear hbr hbs
            by_cases he : r = s
            case pos =>
              have hA2 := Lib.hid (hA.out.step (by rw [← hr.out, ← hs.out]; exact he))
              have hq := hq0 false (by rw [he]; simp)
              replace he := Lib.hid he
              clear hq0
              go_upto_region 6 with fail
              go_quiet (fail)
              go_wp2_with fail
              go_roundg (gk - 1)
              case measure =>
                have := hik.out
                omega
              case rel => exact ⟨i + 1, by (have hib : i < 140737488355328 := by (have := zN.out; omega)); rw [wr64_in _ (by omega)]; rfl, Lib.hid (by have := hik.out; omega), hA2, Lib.hid (bl_drewN hB.out _), Lib.hid (hP.out.drewN _), Lib.hid (hQ.out.drewN _)⟩
            case neg =>
              have hne : N[i]! ≠ M[i]! := by rw [← hr.out, ← hs.out]; exact he
              have hRf : RS = false := by rw [hRS.out]; exact decide_eq_false (fun h => alk_ne (by have := hnn.out; have := hnm.out; have := hc0.out; omega) hne h.1)
              have hq := hq0 true (by simp [he])
              replace he := Lib.hid he
              clear hq0 hne
              subst hRf
              go_upto_region 6 with fail
              go_quiet (fail)
              go_wp2_with fail
              go_ret
              first | exact ⟨rfl, bl_drewN hB.out _⟩ | exact bl_drewN hB.out _
          case neg =>
            have hi : i = nn := by have := hik.out; omega
            have hE0 : Hid (N = M) := Lib.hid (hA.out.eq (by have := hnn.out; omega) (by have := hnm.out; have := hc0.out; omega))
            generalize hWr : wr = wz at hB hP hQ l0 l1 l2 l3 ⊢
            replace hi := Lib.hid hi
            clear hWr hik hA
            go_wp2_with fail
            go_loopg [6] nl (fun kx s6 wr => ∃ (i : Nat), s6 = .int .i64 (i : Int) ∧ Hid (i + kx = nl) ∧ Hid (Alk Ls Ms i) ∧ Hid (Below w.heap.size w wr) ∧ Hid (Blk wr w.heap.size 25 #[.slice AN nn cN, .slice AL nl cL, .int .i64 m]) ∧ Hid (Blk wr (w.heap.size + 1) 25 #[.slice AM nm cM, .slice AK nk cK, .int .i64 k]))
            case atStart => exact ⟨0, rfl, Lib.hid (by omega), Lib.hid Alk.zero, hB, hP, hQ⟩
            case round =>
              obtain ⟨i, rfl, hik, hA, hB2, hP2, hQ2⟩ := hrel
              skip
              clear l0 l1 l2 l3
              have l0 : wr.cell? ⟨w.heap.size, 0, none⟩ = some (.slice AN nn cN) := hP2.out.cell 0
              have l1 : wr.cell? ⟨w.heap.size, 1, none⟩ = some (.slice AL nl cL) := hP2.out.cell 1
              have l2 : wr.cell? ⟨w.heap.size + 1, 0, none⟩ = some (.slice AM nm cM) := hQ2.out.cell 0
              have l3 : wr.cell? ⟨w.heap.size + 1, 1, none⟩ = some (.slice AK nk cK) := hQ2.out.cell 1
              by_cases hin : i < nl
              case pos =>
                have hin2 : i < nk := by have := hc1.out; omega
                obtain ⟨g, o, hAN, hgB, hNc2⟩ := hLc.out (by omega)
                obtain ⟨g2, o2, hAM, hgB2, hMc2⟩ := hKc.out (by omega)
                subst hAN hAM
                obtain ⟨r, hr⟩ : ∃ r, r = Ls[i]! := ⟨_, rfl⟩
                obtain ⟨s, hs⟩ : ∃ r, r = Ms[i]! := ⟨_, rfl⟩
                have hbr : Byt r.name := by rw [hr]; exact BytL.get bL.out (by have := hnl.out; omega)
                have hbs : Byt s.name := by rw [hs]; exact BytL.get bK.out (by have := hnk.out; omega)
                replace hr := Lib.hid hr
                replace hs := Lib.hid hs
                have hcl := fun (j : Nat) (u : Value) (hu : (encRL r)[j]? = some u) => (hB2.out.cell (show (⟨g, o + i * 2 + j, none⟩ : Addr).block < w.heap.size from hgB)).trans (hNc2 i hin j u (by rw [← hr.out]; exact hu))
                have hcm := fun (j : Nat) (u : Value) (hu : (encRL s)[j]? = some u) => (hB2.out.cell (show (⟨g2, o2 + i * 2 + j, none⟩ : Addr).block < w.heap.size from hgB2)).trans (hMc2 i hin2 j u (by rw [← hs.out]; exact hu))
                have x0 : wr.cell? ⟨g, o + i * 2, none⟩ = some (.string (mkS r.name)) := hcl 0 _ rfl
                have x1 : wr.cell? ⟨g, o + i * 2 + 1, none⟩ = some (.int .i64 r.at_) := hcl 1 _ rfl
                have y0 : wr.cell? ⟨g2, o2 + i * 2, none⟩ = some (.string (mkS s.name)) := hcm 0 _ rfl
                have y1 : wr.cell? ⟨g2, o2 + i * 2 + 1, none⟩ = some (.int .i64 s.at_) := hcm 1 _ rfl
                clear hcl hcm hNc2 hMc2
                have gx0 : ∀ d os, (grow (redrawn wr d) os).cell? ⟨g, o + i * 2, none⟩ = some (.string (mkS r.name)) := cell_regrown x0
                have gx1 : ∀ d os, (grow (redrawn wr d) os).cell? ⟨g, o + i * 2 + 1, none⟩ = some (.int .i64 r.at_) := cell_regrown x1
                have gy0 : ∀ d os, (grow (redrawn wr d) os).cell? ⟨g2, o2 + i * 2, none⟩ = some (.string (mkS s.name)) := cell_regrown y0
                have gy1 : ∀ d os, (grow (redrawn wr d) os).cell? ⟨g2, o2 + i * 2 + 1, none⟩ = some (.int .i64 s.at_) := cell_regrown y1
                have hq0 := fun (d : Bool) hd => neq_let hbr hbs (d := d) hd
                clear hbr hbs
                by_cases he : r = s
                case pos =>
                  have hA2 := Lib.hid (hA.out.step (by rw [← hr.out, ← hs.out]; exact he))
                  have hq := hq0 false (by rw [he]; simp)
                  replace he := Lib.hid he
                  clear hq0
                  go_upto_region 11 with fail
                  go_quiet (fail)
                  go_wp2_with fail
                  go_roundg (gk - 1)
                  case measure =>
                    have := hik.out
                    omega
                  case rel => exact ⟨i + 1, by (have hib : i < 140737488355328 := by (have := zL.out; omega)); rw [wr64_in _ (by omega)]; rfl, Lib.hid (by have := hik.out; omega), hA2, Lib.hid (bl_drewN hB2.out _), Lib.hid (hP2.out.drewN _), Lib.hid (hQ2.out.drewN _)⟩
                case neg =>
                  have hne : Ls[i]! ≠ Ms[i]! := by rw [← hr.out, ← hs.out]; exact he
                  have hRf : RS = false := by rw [hRS.out]; exact decide_eq_false (fun h => alk_ne (by have := hnl.out; have := hnk.out; have := hc1.out; omega) hne h.2.1)
                  have hq := hq0 true (by simp [he])
                  replace he := Lib.hid he
                  clear hq0 hne
                  subst hRf
                  go_upto_region 11 with fail
                  go_quiet (fail)
                  go_wp2_with fail
                  go_ret
                  first | exact ⟨rfl, bl_drewN hB2.out _⟩ | exact bl_drewN hB2.out _
              case neg =>
                have hi : i = nl := by have := hik.out; omega
                have hE1 : Hid (Ls = Ms) := Lib.hid (hA.out.eq (by have := hnl.out; omega) (by have := hnk.out; have := hc1.out; omega))
                have hRt : RS = true := by rw [hRS.out]; exact decide_eq_true ⟨hE0.out, hE1.out, hc2.out⟩
                subst hRt
                replace hi := Lib.hid hi
                go_wp2_with fail
                go_ret
                first | exact ⟨rfl, hB2.out⟩ | exact hB2.out
end
end Go.Proofs.YtnaadajcehfmiaaGreatDoor
