/- Package itin: Read. The text of a row, read back. -/
import Derived.Test.YtbddlbhanpjdnaaGreatDoorTxt
import Derived.Maps.AppendAt
import Derived.Laws.RangeAny
import Derived.Lib.OthersKept
namespace Go.Proofs.YtbddlbhanpjdnaaGreatDoor
open Go.RowKit Go.Sort

/-- What Read has read: the two lists, whether it is within the brackets, the number under way, its digits. -/
structure RdSt where
  P : List Nat
  Q : List Nat
  wi : Bool
  n : Nat
  d : Nat
def RdSt.end_ (s : RdSt) : RdSt := if s.d = 0 then s else if s.wi then ⟨s.P, s.Q ++ [s.n], s.wi, 0, 0⟩ else ⟨s.P ++ [s.n], s.Q, s.wi, 0, 0⟩
def rd1 (s : RdSt) (c : Nat) : Option RdSt :=
  if 48 ≤ c ∧ c ≤ 57 ∧ s.n < 100 then (if 255 < 10 * s.n + (c - 48) then none else some ⟨s.P, s.Q, s.wi, 10 * s.n + (c - 48), s.d + 1⟩)
  else if c = 42 ∧ s.d = 0 then some ⟨s.P, s.Q, s.wi, 255, 1⟩
  else if c = 40 then some ⟨s.P, s.Q, true, s.n, s.d⟩
  else if c = 32 ∨ c = 41 then some s.end_
  else none
def rdF (s : RdSt) : List Nat → Option RdSt
  | [] => some s
  | c :: l => (rd1 s c).bind fun t => rdF t l
theorem rdF_append (l m : List Nat) : ∀ s, rdF s (l ++ m) = (rdF s l).bind fun t => rdF t m := by
  induction l with
  | nil => intro s; rfl
  | cons c l ih =>
    intro s
    simp only [List.cons_append, rdF]
    cases rd1 s c with
    | none => rfl
    | some t => exact ih t
theorem rdF_snoc {s t : RdSt} {l : List Nat} {c : Nat} (h : rdF s l = some t) : rdF s (l ++ [c]) = rd1 t c := by
  rw [rdF_append, h]
  simp only [Option.bind_some, rdF]
  cases rd1 t c <;> rfl
theorem rdF_none {s : RdSt} {l m : List Nat} (h : rdF s l = none) : rdF s (l ++ m) = none := by rw [rdF_append, h]; rfl
def rd0 : RdSt := ⟨[], [], false, 0, 0⟩

theorem rd_word {P Q : List Nat} {wi : Bool} {x : Nat} (h : symB x = true) : ∃ k, rdF ⟨P, Q, wi, 0, 0⟩ (wordL x) = some ⟨P, Q, wi, x, k + 1⟩ := by
  unfold wordL
  by_cases h1 : x = 255
  · rw [if_pos h1]; subst h1; exact ⟨0, rfl⟩
  · have hx : x < 64 := by simp [symB] at h; omega
    rw [if_neg h1]
    by_cases h2 : x < 10
    · rw [if_pos h2]
      refine ⟨0, ?_⟩
      simp only [rdF, rd1]
      rw [if_pos (by omega), if_neg (by omega)]
      simp
    · rw [if_neg h2]
      refine ⟨1, ?_⟩
      simp only [rdF, rd1]
      rw [if_pos (by omega), if_neg (by omega)]
      simp only [Option.bind_some]
      rw [if_pos (by omega), if_neg (by omega)]
      simp only [Option.bind_some, Option.some.injEq, RdSt.mk.injEq, true_and]
      refine ⟨?_, ?_⟩
      · show 10 * (10 * 0 + (48 + x / 10 - 48)) + (48 + x % 10 - 48) = x
        omega
      · trivial
theorem rd_end {P Q : List Nat} {wi : Bool} {x k c : Nat} (hc : c = 32 ∨ c = 41) : rd1 ⟨P, Q, wi, x, k + 1⟩ c = some (if wi then ⟨P, Q ++ [x], wi, 0, 0⟩ else ⟨P ++ [x], Q, wi, 0, 0⟩) := by
  unfold rd1
  rw [if_neg (by rcases hc with rfl | rfl <;> simp), if_neg (by rcases hc with rfl | rfl <;> simp), if_neg (by rcases hc with rfl | rfl <;> simp), if_pos hc]
  simp only [RdSt.end_]
  rw [if_neg (by omega)]
theorem rd_pre (Q : List Nat) : ∀ (l P : List Nat), (∀ x, x ∈ l → symB x = true) → rdF ⟨P, Q, false, 0, 0⟩ (preW l) = some ⟨P ++ l, Q, false, 0, 0⟩
  | [], P, _ => by simp [preW, rdF]
  | x :: l, P, h => by
    have e : preW (x :: l) = wordL x ++ ([32] ++ preW l) := by simp [preW]
    obtain ⟨k, hk⟩ := rd_word (P := P) (Q := Q) (wi := false) (h x (by simp))
    rw [e, rdF_append, hk, Option.bind_some, rdF_append]
    simp only [rdF]
    rw [rd_end (.inl rfl)]
    simp only [Option.bind_some, Bool.false_eq_true, if_false]
    rw [rd_pre Q l (P ++ [x]) (fun y hy => h y (by simp [hy]))]
    simp
theorem rd_more (P : List Nat) : ∀ (l Q : List Nat) (x k : Nat), (∀ y, y ∈ l → symB y = true) → rdF ⟨P, Q, true, x, k + 1⟩ ((l.flatMap fun y => 32 :: wordL y) ++ [41]) = some ⟨P, Q ++ x :: l, true, 0, 0⟩
  | [], Q, x, k, _ => by
    simp only [List.flatMap_nil, List.nil_append, rdF]
    rw [rd_end (.inr rfl)]
    rfl
  | y :: l, Q, x, k, h => by
    have e : ((y :: l).flatMap fun y => 32 :: wordL y) ++ [41] = 32 :: (wordL y ++ ((l.flatMap fun y => 32 :: wordL y) ++ [41])) := by simp
    obtain ⟨j, hj⟩ := rd_word (P := P) (Q := Q ++ [x]) (wi := true) (h y (by simp))
    rw [e]
    simp only [rdF]
    rw [rd_end (.inl rfl)]
    simp only [Option.bind_some, if_true]
    rw [rdF_append, hj, Option.bind_some, rd_more P l (Q ++ [x]) y j (fun z hz => h z (by simp [hz]))]
    simp
theorem rd_text {P Q : List Nat} (h : mayI P Q = true) : rdF rd0 (textL P Q) = some ⟨P, Q, true, 0, 0⟩ := by
  obtain ⟨m1, -, m3, m4⟩ := mayI_spec h
  cases Q with
  | nil => simp at m1
  | cons x l =>
    have e : textL P (x :: l) = preW P ++ (40 :: (wordL x ++ ((l.flatMap fun y => 32 :: wordL y) ++ [41]))) := by simp [textL, perW]
    rw [e, rdF_append, rd0, rd_pre [] P [] m3, Option.bind_some]
    simp only [rdF, List.nil_append]
    have h40 : rd1 ⟨P, [], false, 0, 0⟩ 40 = some ⟨P, [], true, 0, 0⟩ := rfl
    obtain ⟨j, hj⟩ := rd_word (P := P) (Q := []) (wi := true) (m4 x (by simp))
    rw [h40, Option.bind_some, rdF_append, hj, Option.bind_some, rd_more P l [] x j (fun y hy => m4 y (by simp [hy]))]
    rfl
theorem text_inj {P Q P' Q' : List Nat} (h : mayI P Q = true) (h' : mayI P' Q' = true) (e : textL P Q = textL P' Q') : P = P' ∧ Q = Q' := by
  have h1 := rd_text h
  rw [e, rd_text h'] at h1
  injection h1 with h1
  injection h1 with h1 h2
  exact ⟨h1.symm, h2.symm⟩

/-- What Read tells of the bytes s. -/
def RdOut (s P Q : List Nat) (E : Int) : Prop :=
  (16384 < s.length ∧ P = [] ∧ Q = [] ∧ E = 4) ∨ (s.length ≤ 16384 ∧ ((mayI P Q = true ∧ textL P Q = s ∧ E = 0) ∨ (P = [] ∧ Q = [] ∧ E = 220 ∧ ∀ P' Q', mayI P' Q' = true → textL P' Q' ≠ s)))
theorem rdOut_same {s P Q P' Q' : List Nat} {E E' : Int} (h : RdOut s P Q E) (h' : RdOut s P' Q' E') : P = P' ∧ Q = Q' ∧ E = E' := by
  rcases h with ⟨h1, h2, h3, h4⟩ | ⟨h1, h2⟩ <;> rcases h' with ⟨k1, k2, k3, k4⟩ | ⟨k1, k2⟩
  · subst h2 h3 h4 k2 k3 k4; exact ⟨rfl, rfl, rfl⟩
  · omega
  · omega
  · rcases h2 with ⟨a1, a2, a3⟩ | ⟨a1, a2, a3, a4⟩ <;> rcases k2 with ⟨b1, b2, b3⟩ | ⟨b1, b2, b3, b4⟩
    · obtain ⟨e1, e2⟩ := text_inj a1 b1 (a2.trans b2.symm)
      exact ⟨e1, e2, a3.trans b3.symm⟩
    · exact absurd a2 (b4 _ _ a1)
    · exact absurd b2 (a4 _ _ b1)
    · subst a1 a2 a3 b1 b2 b3; exact ⟨rfl, rfl, rfl⟩
def RetPf (P Q : List Nat) (E : Int) (w : World) (e : Ending) (w' : World) : Prop :=
  ∃ v1 v2, e = .returned (.tuple #[.agg #[v1, v2], .int .i64 E]) ∧ Pf w' w.heap.size v1 P ∧ Pf w' w.heap.size v2 Q ∧ Below w.heap.size w w'
def RetRead (s : List Nat) (w : World) (e : Ending) (w' : World) : Prop := ∃ P Q E, RdOut s P Q E ∧ RetPf P Q E w e w'

/-- The memory of Read under way. -/
def RdW (w : World) (N : Nat) (s : ByteArray) (pos : Nat) (t : RdSt) (v1 v2 : Value) : Prop :=
  Blk w N 30 #[.slice none 0 0, .slice none 0 0] ∧ Blk w (N + 1) 30 #[v1, v2] ∧ Blk w (N + 2) 4 #[.bool t.wi] ∧ Blk w (N + 3) 3 #[.int .i64 (t.n : Int)] ∧ Blk w (N + 4) 3 #[.int .i64 (t.d : Int)] ∧
    w.heap[N + 5]? = some (.stringIter s pos) ∧ w.ownsRow (N + 6) 5 1 v1 t.P.length (ivs .u8 t.P) ∧ w.ownsRow (N + 6) 5 1 v2 t.Q.length (ivs .u8 t.Q) ∧ (∀ g, v1.ownBlock = some g → v2.ownBlock ≠ some g)

set_option maxRecDepth 100000 in
set_option maxHeartbeats 1000000 in
/-- Read's closure: the number under way goes to its list. -/
theorem rdEnd_any (N : Nat) (w : World) (s : ByteArray) (pos : Nat) (t : RdSt) (v1 v2 : Value) (h : RdW w N s pos t v1 v2) (hn : t.n ≤ 255) (hP : t.P.length ≤ 20000) (hQ : t.Q.length ≤ 20000) :
    Calls Tryz.prog 52 #[.pointer (some ⟨N + 4, 0, none⟩), .pointer (some ⟨N + 2, 0, none⟩), .pointer (some ⟨N + 1, 0, none⟩), .pointer (some ⟨N + 3, 0, none⟩)] w
      (fun e w' => ∃ b u1 u2, e = .returned (.bool b) ∧ RdW w' N s pos t.end_ u1 u2 ∧ Below N w w') := by
  obtain ⟨i0, hi, hz0, hz1, hz2⟩ := info_parts info_u8
  obtain ⟨P, Q, wi, n, d⟩ := t
  obtain ⟨h0, h1, h2, h3, h4, h5, h6, h7, h8⟩ := h
  simp only at h2 h3 h4 h6 h7 hn hP hQ
  by_cases hd : d = 0
  · subst hd
    have c0 : w.cell? ⟨N + 4, 0, none⟩ = some (.int .i64 ((0 : Nat) : Int)) := h4.cell 0
    have hres := Lib.hid (show RdW w N s pos (RdSt.end_ ⟨P, Q, wi, n, 0⟩) v1 v2 from ⟨h0, h1, h2, h3, h4, h5, h6, h7, h8⟩)
    clear h0 h1 h2 h3 h4 h5 h6 h7 h8
    go_enter Tryz.func52, Tryz.ntmps52
    go_wp2_with fail
    go_ret
    exact ⟨false, v1, v2, rfl, hres.out, Below.refl _ _⟩
  · have hdI : ((d : Int) == 0) = false := by rw [beq_eq_false_iff_ne]; omega
    have c0 : w.cell? ⟨N + 4, 0, none⟩ = some (.int .i64 (d : Int)) := h4.cell 0
    have c1 : w.cell? ⟨N + 2, 0, none⟩ = some (.bool wi) := h2.cell 0
    have c2 : w.cell? ⟨N + 3, 0, none⟩ = some (.int .i64 (n : Int)) := h3.cell 0
    have x0 : w.cell? ⟨N + 1, 0, none⟩ = some v1 := h1.cell 0
    have x1 : w.cell? ⟨N + 1, 1, none⟩ = some v2 := h1.cell 1
    have hnw : IntKind.u8.wrap (n : Int) = (n : Int) := by rw [IntKind.wrap_u8]; omega
    have hN5 := heap_lt h5
    cases wi
    · replace h0 := Lib.hid h0
      replace h1 := Lib.hid h1
      replace h2 := Lib.hid h2
      replace h3 := Lib.hid h3
      replace h4 := Lib.hid h4
      replace h5 := Lib.hid h5
      replace h6 := Lib.hid h6
      replace h7 := Lib.hid h7
      replace h8 := Lib.hid h8
      go_enter Tryz.func52, Tryz.ntmps52
      go_wp2_with (at_builtin; refine wpList_append_own_at _ rfl _ _ 28 rfl (N + 6) 5 i0 (.int .u8 0) 1 1 Tryz.underlying28 hi hz0 hz1 hz2 rfl (by decide) _ _ _ rfl (h6.out.alloc _) ⟨w.heap.size, 0, none⟩ 1 1 [.int .u8 (n : Int)] rfl rfl ?d1 ?d2 ?d3 ?d4 ?d5 ?_)
      case d1 => exact cell_one_new _ _ _
      case d2 => intro u hu; simp at hu; rw [hu]; rfl
      case d3 => unfold maxLen; omega
      case d4 => omega
      case d5 => have := heap_lt h5.out; simp; omega
      intro v' w1 hown' hgrow _ hat
      obtain ⟨g9, c9, hv9⟩ : ∃ g c, v' = .slice (some ⟨g, 0, none⟩) (P.length + 1) c := by
        rcases own_forms hown' with ⟨-, h⟩ | h
        · omega
        · exact h
      subst hv9
      have hlo : ∀ g, v1.ownBlock = some g → N + 6 ≤ g ∧ g < w.heap.size := fun g hg => h6.out.lt g hg
      have hne : ∀ g, g < N + 6 → some g ≠ v1.ownBlock := fun g hg e => by have := (hlo g e.symm).1; omega
      have g0 : Blk w1 N 30 #[.slice none 0 0, .slice none 0 0] := Blk.grown (h0.out.alloc _) hgrow (hne _ (by omega))
      have g1 : Blk w1 (N + 1) 30 #[v1, v2] := Blk.grown (h1.out.alloc _) hgrow (hne _ (by omega))
      have g2 : Blk w1 (N + 2) 4 #[.bool false] := Blk.grown (h2.out.alloc _) hgrow (hne _ (by omega))
      have g3 : Blk w1 (N + 3) 3 #[.int .i64 (n : Int)] := Blk.grown (h3.out.alloc _) hgrow (hne _ (by omega))
      have g4 : Blk w1 (N + 4) 3 #[.int .i64 (d : Int)] := Blk.grown (h4.out.alloc _) hgrow (hne _ (by omega))
      have g5 : w1.heap[N + 5]? = some (.stringIter s pos) := (hgrow.block (N + 5) (by have := heap_lt h5.out; simp; omega) (hne _ (by omega))).trans ((Below.heap_alloc w _ _ (heap_lt h5.out)).trans h5.out)
      have gO : w1.ownsRow (N + 6) 5 1 v2 Q.length (ivs .u8 Q) := (h7.out.alloc _).kept hgrow (by
        rcases ho : v2.ownBlock with _ | g
        · exact .inl rfl
        · exact .inr (fun e => h8.out g e.symm ho))
      have gN : w1.ownsRow (N + 6) 5 1 (Value.slice (some ⟨g9, 0, none⟩) (P.length + 1) c9) (P ++ [n]).length (ivs .u8 (P ++ [n])) := by
        rw [List.length_append, ivs_append]; exact hown'
      have hsep : ∀ g, (Value.slice (some ⟨g9, 0, none⟩) (P.length + 1) c9).ownBlock = some g → v2.ownBlock ≠ some g := fun g hg e => by
        rcases hat with h | h
        · exact h8.out g (by rw [← h]; exact hg) e
        · rw [hg] at h
          have := (h7.out.lt g e).2
          injection h with h
          first | omega | (simp at h; omega)
      have hB1 : Below N w w1 := ((Below.refl N w).alloc (by have := heap_lt h5.out; omega) _).grown hgrow (by have := heap_lt h5.out; simp; omega) (fun k hk => by have := (hlo k hk).1; omega)
      have f1 := g1.frozen 0
      have f3 := g3.frozen 0
      have f4 := g4.frozen 0
      have y0 : w1.cell? ⟨N + 1, 0, none⟩ = some v1 := g1.cell 0
      have y1 : w1.cell? ⟨N + 1, 1, none⟩ = some v2 := g1.cell 1
      have y3 : w1.cell? ⟨N + 3, 0, none⟩ = some (.int .i64 (n : Int)) := g3.cell 0
      have y4 : w1.cell? ⟨N + 4, 0, none⟩ = some (.int .i64 (d : Int)) := g4.cell 0
      have hlow : N + 6 ≤ w1.heap.size := by have := heap_lt g5; omega
      have hres : RdW (((w1.setCell ⟨N + 1, 0, none⟩ (Value.slice (some ⟨g9, 0, none⟩) (P.length + 1) c9)).setCell ⟨N + 3, 0, none⟩ (.int .i64 0)).setCell ⟨N + 4, 0, none⟩ (.int .i64 0)) N s pos (RdSt.end_ ⟨P, Q, false, n, d⟩) (Value.slice (some ⟨g9, 0, none⟩) (P.length + 1) c9) v2 := by
        have e : RdSt.end_ ⟨P, Q, false, n, d⟩ = ⟨P ++ [n], Q, false, 0, 0⟩ := by simp [RdSt.end_, hd]
        rw [e]
        refine ⟨((g0.far (p := ⟨N + 1, 0, none⟩) (by simp) _).far (p := ⟨N + 3, 0, none⟩) (by simp) _).far (p := ⟨N + 4, 0, none⟩) (by simp) _,
          ((Blk.set_ g1 0 (Value.slice (some ⟨g9, 0, none⟩) (P.length + 1) c9)).far (p := ⟨N + 3, 0, none⟩) (by simp) _).far (p := ⟨N + 4, 0, none⟩) (by simp) _,
          ((g2.far (p := ⟨N + 1, 0, none⟩) (by simp) _).far (p := ⟨N + 3, 0, none⟩) (by simp) _).far (p := ⟨N + 4, 0, none⟩) (by simp) _,
          (Blk.set_ (g3.far (p := ⟨N + 1, 0, none⟩) (by simp) _) 0 (.int .i64 0)).far (p := ⟨N + 4, 0, none⟩) (by simp) _,
          Blk.set_ ((g4.far (p := ⟨N + 1, 0, none⟩) (by simp) _).far (p := ⟨N + 3, 0, none⟩) (by simp) _) 0 (.int .i64 0),
          (Below.heap_setCell _ _ _ _ (by simp)).trans ((Below.heap_setCell _ _ _ _ (by simp)).trans ((Below.heap_setCell _ _ _ _ (by simp)).trans g5)), ?_, ?_, hsep⟩
        all_goals exact ownsRow_setCell_below (ownsRow_setCell_below (ownsRow_setCell_below (by first | exact gN | exact gO) (by simp) _) (by simp) _) (by simp) _
      have hBr := (((hB1.setCell (p := ⟨N + 1, 0, none⟩) (by simp) (Value.slice (some ⟨g9, 0, none⟩) (P.length + 1) c9)).setCell (p := ⟨N + 3, 0, none⟩) (by simp) (.int .i64 0)).setCell (p := ⟨N + 4, 0, none⟩) (by simp) (.int .i64 0))
      replace hres := Lib.hid hres
      replace hBr := Lib.hid hBr
      clear h0 h1 h2 h3 h4 h5 h6 h7 h8 g0 g1 g2 g3 g4 g5 gO gN hsep hB1 hgrow hat hlo hne hown' c0 c1 c2 x0 x1
      go_wp2_with fail
      go_ret
      exact ⟨true, _, _, rfl, hres.out, hBr.out⟩
    · replace h0 := Lib.hid h0
      replace h1 := Lib.hid h1
      replace h2 := Lib.hid h2
      replace h3 := Lib.hid h3
      replace h4 := Lib.hid h4
      replace h5 := Lib.hid h5
      replace h6 := Lib.hid h6
      replace h7 := Lib.hid h7
      replace h8 := Lib.hid h8
      go_enter Tryz.func52, Tryz.ntmps52
      go_wp2_with (at_builtin; refine wpList_append_own_at _ rfl _ _ 28 rfl (N + 6) 5 i0 (.int .u8 0) 1 1 Tryz.underlying28 hi hz0 hz1 hz2 rfl (by decide) _ _ _ rfl (h7.out.alloc _) ⟨w.heap.size, 0, none⟩ 1 1 [.int .u8 (n : Int)] rfl rfl ?d1 ?d2 ?d3 ?d4 ?d5 ?_)
      case d1 => exact cell_one_new _ _ _
      case d2 => intro u hu; simp at hu; rw [hu]; rfl
      case d3 => unfold maxLen; omega
      case d4 => omega
      case d5 => have := heap_lt h5.out; simp; omega
      intro v' w1 hown' hgrow _ hat
      obtain ⟨g9, c9, hv9⟩ : ∃ g c, v' = .slice (some ⟨g, 0, none⟩) (Q.length + 1) c := by
        rcases own_forms hown' with ⟨-, h⟩ | h
        · omega
        · exact h
      subst hv9
      have hlo : ∀ g, v2.ownBlock = some g → N + 6 ≤ g ∧ g < w.heap.size := fun g hg => h7.out.lt g hg
      have hne : ∀ g, g < N + 6 → some g ≠ v2.ownBlock := fun g hg e => by have := (hlo g e.symm).1; omega
      have g0 : Blk w1 N 30 #[.slice none 0 0, .slice none 0 0] := Blk.grown (h0.out.alloc _) hgrow (hne _ (by omega))
      have g1 : Blk w1 (N + 1) 30 #[v1, v2] := Blk.grown (h1.out.alloc _) hgrow (hne _ (by omega))
      have g2 : Blk w1 (N + 2) 4 #[.bool true] := Blk.grown (h2.out.alloc _) hgrow (hne _ (by omega))
      have g3 : Blk w1 (N + 3) 3 #[.int .i64 (n : Int)] := Blk.grown (h3.out.alloc _) hgrow (hne _ (by omega))
      have g4 : Blk w1 (N + 4) 3 #[.int .i64 (d : Int)] := Blk.grown (h4.out.alloc _) hgrow (hne _ (by omega))
      have g5 : w1.heap[N + 5]? = some (.stringIter s pos) := (hgrow.block (N + 5) (by have := heap_lt h5.out; simp; omega) (hne _ (by omega))).trans ((Below.heap_alloc w _ _ (heap_lt h5.out)).trans h5.out)
      have gO : w1.ownsRow (N + 6) 5 1 v1 P.length (ivs .u8 P) := (h6.out.alloc _).kept hgrow (by
        rcases ho : v1.ownBlock with _ | g
        · exact .inl rfl
        · exact .inr (fun e => h8.out g ho e.symm))
      have gN : w1.ownsRow (N + 6) 5 1 (Value.slice (some ⟨g9, 0, none⟩) (Q.length + 1) c9) (Q ++ [n]).length (ivs .u8 (Q ++ [n])) := by
        rw [List.length_append, ivs_append]; exact hown'
      have hsep : ∀ g, v1.ownBlock = some g → (Value.slice (some ⟨g9, 0, none⟩) (Q.length + 1) c9).ownBlock ≠ some g := fun g hg e => by
        rcases hat with h | h
        · exact h8.out g hg (by rw [← h]; exact e)
        · rw [e] at h
          have := (h6.out.lt g hg).2
          injection h with h
          first | omega | (simp at h; omega)
      have hB1 : Below N w w1 := ((Below.refl N w).alloc (by have := heap_lt h5.out; omega) _).grown hgrow (by have := heap_lt h5.out; simp; omega) (fun k hk => by have := (hlo k hk).1; omega)
      have f1 := g1.frozen 1
      have f3 := g3.frozen 0
      have f4 := g4.frozen 0
      have y0 : w1.cell? ⟨N + 1, 0, none⟩ = some v1 := g1.cell 0
      have y1 : w1.cell? ⟨N + 1, 1, none⟩ = some v2 := g1.cell 1
      have y3 : w1.cell? ⟨N + 3, 0, none⟩ = some (.int .i64 (n : Int)) := g3.cell 0
      have y4 : w1.cell? ⟨N + 4, 0, none⟩ = some (.int .i64 (d : Int)) := g4.cell 0
      have hlow : N + 6 ≤ w1.heap.size := by have := heap_lt g5; omega
      have hres : RdW (((w1.setCell ⟨N + 1, 1, none⟩ (Value.slice (some ⟨g9, 0, none⟩) (Q.length + 1) c9)).setCell ⟨N + 3, 0, none⟩ (.int .i64 0)).setCell ⟨N + 4, 0, none⟩ (.int .i64 0)) N s pos (RdSt.end_ ⟨P, Q, true, n, d⟩) v1 (Value.slice (some ⟨g9, 0, none⟩) (Q.length + 1) c9) := by
        have e : RdSt.end_ ⟨P, Q, true, n, d⟩ = ⟨P, Q ++ [n], true, 0, 0⟩ := by simp [RdSt.end_, hd]
        rw [e]
        refine ⟨((g0.far (p := ⟨N + 1, 1, none⟩) (by simp) _).far (p := ⟨N + 3, 0, none⟩) (by simp) _).far (p := ⟨N + 4, 0, none⟩) (by simp) _,
          ((Blk.set_ g1 1 (Value.slice (some ⟨g9, 0, none⟩) (Q.length + 1) c9)).far (p := ⟨N + 3, 0, none⟩) (by simp) _).far (p := ⟨N + 4, 0, none⟩) (by simp) _,
          ((g2.far (p := ⟨N + 1, 1, none⟩) (by simp) _).far (p := ⟨N + 3, 0, none⟩) (by simp) _).far (p := ⟨N + 4, 0, none⟩) (by simp) _,
          (Blk.set_ (g3.far (p := ⟨N + 1, 1, none⟩) (by simp) _) 0 (.int .i64 0)).far (p := ⟨N + 4, 0, none⟩) (by simp) _,
          Blk.set_ ((g4.far (p := ⟨N + 1, 1, none⟩) (by simp) _).far (p := ⟨N + 3, 0, none⟩) (by simp) _) 0 (.int .i64 0),
          (Below.heap_setCell _ _ _ _ (by simp)).trans ((Below.heap_setCell _ _ _ _ (by simp)).trans ((Below.heap_setCell _ _ _ _ (by simp)).trans g5)), ?_, ?_, hsep⟩
        all_goals exact ownsRow_setCell_below (ownsRow_setCell_below (ownsRow_setCell_below (by first | exact gN | exact gO) (by simp) _) (by simp) _) (by simp) _
      have hBr := (((hB1.setCell (p := ⟨N + 1, 1, none⟩) (by simp) (Value.slice (some ⟨g9, 0, none⟩) (Q.length + 1) c9)).setCell (p := ⟨N + 3, 0, none⟩) (by simp) (.int .i64 0)).setCell (p := ⟨N + 4, 0, none⟩) (by simp) (.int .i64 0))
      replace hres := Lib.hid hres
      replace hBr := Lib.hid hBr
      clear h0 h1 h2 h3 h4 h5 h6 h7 h8 g0 g1 g2 g3 g4 g5 gO gN hsep hB1 hgrow hat hlo hne hown' c0 c1 c2 x0 x1
      go_wp2_with fail
      go_ret
      exact ⟨true, _, _, rfl, hres.out, hBr.out⟩

section
variable {w : World} {N : Nat} {s : ByteArray} {pos : Nat} {t : RdSt} {v1 v2 : Value}
theorem RdW.low (h : RdW w N s pos t v1 v2) : N + 5 < w.heap.size := heap_lt h.2.2.2.2.2.1
/-- A turn of one of the small blocks, or of the iterator. -/
theorem iter_blk {g k : Nat} {T : TypeId} {cs : Array Value} {q : Nat} (h : Blk w g T cs) (hne : g ≠ k) : Blk (w.iterAt k s q) g T cs := by
  show (w.heap.setIfInBounds k (.stringIter s q))[g]? = _
  rw [Array.getElem?_setIfInBounds_ne (Ne.symm hne)]
  exact h
theorem iter_own {k base n q : Nat} {T : TypeId} {size : Nat} {v : Value} {xs : List Value} (h : w.ownsRow base T size v n xs) (hk : k < base) : (w.iterAt k s q).ownsRow base T size v n xs :=
  h.kept (row := some k) ⟨rfl, rfl, rfl, by simp [World.iterAt], fun i _ hi => by
    show (w.heap.setIfInBounds k (.stringIter s q))[i]? = _
    exact Array.getElem?_setIfInBounds_ne (fun e => hi (by rw [e]))⟩ (.inr (fun e => by have := (h.lt k e).1; omega))
theorem iter_below {B k q : Nat} {a : World} (h : Below B a w) (hk : B ≤ k) : Below B a (w.iterAt k s q) :=
  h.trans ⟨rfl, rfl, rfl, by simp [World.iterAt], fun i hi => by
    show (w.heap.setIfInBounds k (.stringIter s q))[i]? = _
    exact Array.getElem?_setIfInBounds_ne (by omega)⟩
theorem RdW.next (h : RdW w N s pos t v1 v2) (q : Nat) : RdW (w.iterAt (N + 5) s q) N s q t v1 v2 := by
  obtain ⟨h0, h1, h2, h3, h4, h5, h6, h7, h8⟩ := h
  refine ⟨iter_blk h0 (by omega), iter_blk h1 (by omega), iter_blk h2 (by omega), iter_blk h3 (by omega), iter_blk h4 (by omega), ?_, iter_own h6 (by omega), iter_own h7 (by omega), h8⟩
  show (w.heap.setIfInBounds (N + 5) (.stringIter s q))[N + 5]? = _
  simp [heap_lt h5]
theorem RdW.within (h : RdW w N s pos t v1 v2) (b : Bool) : RdW (w.setCell ⟨N + 2, 0, none⟩ (.bool b)) N s pos ⟨t.P, t.Q, b, t.n, t.d⟩ v1 v2 := by
  obtain ⟨h0, h1, h2, h3, h4, h5, h6, h7, h8⟩ := h
  exact ⟨h0.far (p := ⟨N + 2, 0, none⟩) (by simp) _, h1.far (p := ⟨N + 2, 0, none⟩) (by simp) _, Blk.set_ h2 0 _, h3.far (p := ⟨N + 2, 0, none⟩) (by simp) _, h4.far (p := ⟨N + 2, 0, none⟩) (by simp) _,
    (Below.heap_setCell _ _ _ _ (by simp)).trans h5, ownsRow_setCell_below h6 (by simp) _, ownsRow_setCell_below h7 (by simp) _, h8⟩
theorem RdW.number (h : RdW w N s pos t v1 v2) (n : Nat) : RdW (w.setCell ⟨N + 3, 0, none⟩ (.int .i64 (n : Int))) N s pos ⟨t.P, t.Q, t.wi, n, t.d⟩ v1 v2 := by
  obtain ⟨h0, h1, h2, h3, h4, h5, h6, h7, h8⟩ := h
  exact ⟨h0.far (p := ⟨N + 3, 0, none⟩) (by simp) _, h1.far (p := ⟨N + 3, 0, none⟩) (by simp) _, h2.far (p := ⟨N + 3, 0, none⟩) (by simp) _, Blk.set_ h3 0 _, h4.far (p := ⟨N + 3, 0, none⟩) (by simp) _,
    (Below.heap_setCell _ _ _ _ (by simp)).trans h5, ownsRow_setCell_below h6 (by simp) _, ownsRow_setCell_below h7 (by simp) _, h8⟩
theorem RdW.digits (h : RdW w N s pos t v1 v2) (d : Nat) : RdW (w.setCell ⟨N + 4, 0, none⟩ (.int .i64 (d : Int))) N s pos ⟨t.P, t.Q, t.wi, t.n, d⟩ v1 v2 := by
  obtain ⟨h0, h1, h2, h3, h4, h5, h6, h7, h8⟩ := h
  exact ⟨h0.far (p := ⟨N + 4, 0, none⟩) (by simp) _, h1.far (p := ⟨N + 4, 0, none⟩) (by simp) _, h2.far (p := ⟨N + 4, 0, none⟩) (by simp) _, h3.far (p := ⟨N + 4, 0, none⟩) (by simp) _, Blk.set_ h4 0 _,
    (Below.heap_setCell _ _ _ _ (by simp)).trans h5, ownsRow_setCell_below h6 (by simp) _, ownsRow_setCell_below h7 (by simp) _, h8⟩
end

theorem RdW.pos {w : World} {N : Nat} {s : ByteArray} {pos : Nat} {t : RdSt} {v1 v2 : Value} (h : RdW w N s pos t v1 v2) : w.iterPos (N + 5) = pos := by simp [World.iterPos, h.2.2.2.2.2.1]

/-- What holds of the state. -/
def RdOk (s : List Nat) (pos : Nat) (t : RdSt) : Prop :=
  rdF rd0 (s.take pos) = some t ∧ pos ≤ s.length ∧ t.n ≤ 255 ∧ t.d ≤ pos ∧ t.P.length + t.Q.length ≤ pos ∧ (∀ x, x ∈ t.P → x < 256) ∧ (∀ x, x ∈ t.Q → x < 256)
theorem RdOk.step {s : List Nat} {pos c : Nat} {t u : RdSt} (h : RdOk s pos t) (hc : s[pos]? = some c) (h1 : rd1 t c = some u) : RdOk s (pos + 1) u := by
  obtain ⟨a1, a2, a3, a4, a5, a6, a7⟩ := h
  have hl := lt_of_getElem? hc
  refine ⟨by rw [take_next hc, rdF_snoc a1, h1], hl, ?_⟩
  unfold rd1 at h1
  split at h1
  · split at h1
    · cases h1
    · injection h1 with h1; subst h1; exact ⟨by simp only; omega, by simp only; omega, by simp only; omega, a6, a7⟩
  · split at h1
    · injection h1 with h1; subst h1; exact ⟨by simp only; omega, by simp only; omega, by simp only; omega, a6, a7⟩
    · split at h1
      · injection h1 with h1; subst h1; exact ⟨a3, by simp only; omega, by simp only; omega, a6, a7⟩
      · split at h1
        · injection h1 with h1; subst h1
          unfold RdSt.end_
          split
          · exact ⟨a3, by omega, by omega, a6, a7⟩
          · split
            · exact ⟨by simp, by simp, by simp only [List.length_append, List.length_cons, List.length_nil]; omega, a6, fun x hx => by
                rcases List.mem_append.1 hx with hx | hx
                · exact a7 x hx
                · simp at hx; omega⟩
            · exact ⟨by simp, by simp, by simp only [List.length_append, List.length_cons, List.length_nil]; omega, fun x hx => by
                rcases List.mem_append.1 hx with hx | hx
                · exact a6 x hx
                · simp at hx; omega, a7⟩
        · cases h1
theorem RdOk.fail {s : List Nat} {pos c : Nat} {t : RdSt} (h : RdOk s pos t) (hl : s.length ≤ 16384) (hc : s[pos]? = some c) (h1 : rd1 t c = none) : RdOut s [] [] 220 := by
  refine .inr ⟨hl, .inr ⟨rfl, rfl, rfl, fun P Q hm e => ?_⟩⟩
  have h2 : rdF rd0 (s.take (pos + 1)) = none := by rw [take_next hc, rdF_snoc h.1, h1]
  have h3 := rdF_none (m := s.drop (pos + 1)) h2
  rw [List.take_append_drop, ← e, rd_text hm] at h3
  cases h3
theorem RdOk.done {s : List Nat} {t : RdSt} (h : RdOk s s.length t) (hl : s.length ≤ 16384) (hne : ¬ (mayI t.P t.Q = true ∧ textL t.P t.Q = s)) : RdOut s [] [] 220 := by
  refine .inr ⟨hl, .inr ⟨rfl, rfl, rfl, fun P Q hm e => hne ?_⟩⟩
  have h2 := h.1
  rw [List.take_length, ← e, rd_text hm] at h2
  injection h2 with h2
  subst h2
  exact ⟨hm, e⟩

theorem wordL_lt {x : Nat} (h : symB x = true) : ∀ y, y ∈ wordL x → y < 256 := by
  have hx : x < 64 ∨ x = 255 := by simp [symB] at h; exact h
  intro y hy
  unfold wordL at hy
  split at hy
  · simp at hy; omega
  · split at hy
    · simp at hy; omega
    · simp at hy; omega
theorem textL_lt {P Q : List Nat} (h : mayI P Q = true) : ∀ y, y ∈ textL P Q → y < 256 := by
  obtain ⟨-, -, m3, m4⟩ := mayI_spec h
  intro y hy
  simp only [textL, preW, List.mem_append, List.mem_flatMap, List.mem_singleton] at hy
  rcases hy with (⟨x, hx, hy | hy⟩ | hy) | hy
  · exact wordL_lt (m3 x hx) y hy
  · omega
  · cases Q with
    | nil => simp [perW] at hy
    | cons z l =>
      simp only [perW, List.cons_append, List.mem_cons, List.mem_append, List.mem_flatMap] at hy
      rcases hy with hy | hy | ⟨x, hx, hy | hy⟩
      · omega
      · exact wordL_lt (m4 z (by simp)) y hy
      · omega
      · exact wordL_lt (m4 x (by simp [hx])) y hy
  · omega
theorem toList_inj {a b : ByteArray} (h : a.toList = b.toList) : a = b := by
  have h1 : a.data.toList = b.data.toList := by simpa [ByteArray.toList_eq] using h
  exact ByteArray.ext (Array.ext' h1)

theorem retRead_err {s : List Nat} {E : Int} {w W : World} (h : RdOut s [] [] E) (hB : Below w.heap.size w W) : RetRead s w (.returned (.tuple #[.agg #[.slice none 0 0, .slice none 0 0], .int .i64 E])) W :=
  ⟨[], [], E, h, _, _, rfl, Pf.nil_ _ _ none 0 (Nat.zero_le _), Pf.nil_ _ _ none 0 (Nat.zero_le _), hB⟩

set_option maxRecDepth 100000 in
set_option maxHeartbeats 4000000 in
/-- itin.Read -/
theorem iRead_any (s : ByteArray) (w : World) (hs : s.size ≤ 140737488355328) : Calls Tryz.prog 28 #[.string s] w (RetRead (sl s) w) := by
  have hlen := sl_len s
  have hBW : Below w.heap.size w (w.alloc (.cells #[.slice none 0 0, .slice none 0 0] 30)) := (Below.refl _ w).alloc (Nat.le_refl _) _
  by_cases h0 : 16384 < s.size
  · have h0I : (16384 : Int) < (s.size : Int) := by omega
    have hout : RdOut (sl s) [] [] 4 := .inl ⟨by rw [hlen]; exact h0, rfl, rfl, rfl⟩
    have hfin : RetRead (sl s) w (.returned (.tuple #[.agg #[.slice none 0 0, .slice none 0 0], .int .i64 4])) (w.alloc (.cells #[.slice none 0 0, .slice none 0 0] 30)) := retRead_err hout hBW
    replace hfin := Lib.hid hfin
    clear hout hlen hBW
    go_enter Tryz.func28, Tryz.ntmps28
    go_wp2_with fail
    refine bodyPost_ret (v := .tuple #[.agg #[.slice none 0 0, .slice none 0 0], .int .i64 4]) (by simp [results, Tryz.results28, go_sem]) rfl ?_
    exact hfin.out
  · have h0I : ¬ (16384 : Int) < (s.size : Int) := by omega
    have hl16 : Hid ((sl s).length ≤ 16384) := Lib.hid (by rw [hlen]; omega)
    replace hlen := Lib.hid hlen
    clear hBW
    obtain ⟨W, hW⟩ : ∃ W, W = ((((w.alloc (.cells #[.slice none 0 0, .slice none 0 0] 30)).alloc (.cells #[.slice none 0 0, .slice none 0 0] 30)).alloc (.cells #[.bool false] 4)).alloc (.cells #[.int .i64 0] 3)).alloc (.cells #[.int .i64 0] 3) := ⟨_, rfl⟩
    have hsz : W.heap.size = w.heap.size + 5 := by rw [hW]; simp
    have hst : RdW (W.iter s 0) w.heap.size s 0 rd0 (.slice none 0 0) (.slice none 0 0) := by
      have e1 := ((((Blk.new w 30 #[.slice none 0 0, .slice none 0 0]).alloc (.cells #[.slice none 0 0, .slice none 0 0] 30)).alloc (.cells #[.bool false] 4)).alloc (.cells #[.int .i64 0] 3)).alloc (.cells #[.int .i64 0] 3)
      have e2 := (((Blk.new (w.alloc (.cells #[.slice none 0 0, .slice none 0 0] 30)) 30 #[.slice none 0 0, .slice none 0 0]).alloc (.cells #[.bool false] 4)).alloc (.cells #[.int .i64 0] 3)).alloc (.cells #[.int .i64 0] 3)
      have e3 := ((Blk.new ((w.alloc (.cells #[.slice none 0 0, .slice none 0 0] 30)).alloc (.cells #[.slice none 0 0, .slice none 0 0] 30)) 4 #[.bool false]).alloc (.cells #[.int .i64 0] 3)).alloc (.cells #[.int .i64 0] 3)
      have e4 := (Blk.new (((w.alloc (.cells #[.slice none 0 0, .slice none 0 0] 30)).alloc (.cells #[.slice none 0 0, .slice none 0 0] 30)).alloc (.cells #[.bool false] 4)) 3 #[.int .i64 0]).alloc (.cells #[.int .i64 0] 3)
      have e5 := Blk.new ((((w.alloc (.cells #[.slice none 0 0, .slice none 0 0] 30)).alloc (.cells #[.slice none 0 0, .slice none 0 0] 30)).alloc (.cells #[.bool false] 4)).alloc (.cells #[.int .i64 0] 3)) 3 #[.int .i64 0]
      rw [← hW] at e1 e2 e3 e4 e5
      simp only [World.size_alloc] at e1 e2 e3 e4 e5
      refine ⟨e1.alloc _, e2.alloc _, e3.alloc _, e4.alloc _, e5.alloc _, ?_, World.ownsRow_nil _ _ _ _, World.ownsRow_nil _ _ _ _, fun g hg => by cases hg⟩
      rw [← hsz]
      exact World.iter_heap W s 0
    have hBst : Below w.heap.size w (W.iter s 0) := by
      rw [hW]
      exact (((((((Below.refl _ w).alloc (Nat.le_refl _) _).alloc (by simp) _).alloc (by simp; omega) _).alloc (by simp; omega) _).alloc (by simp; omega) _).alloc (by simp; omega) _)
    have hok0 : RdOk (sl s) 0 rd0 := ⟨by rw [List.take_zero]; rfl, Nat.zero_le _, by decide, by decide, by decide, fun x hx => (by cases hx), fun x hx => (by cases hx)⟩
    obtain ⟨N, hN⟩ : ∃ N, N = w.heap.size := ⟨_, rfl⟩
    rw [← hN] at hst hBst
    rw [hW] at hst hBst
    replace hst := Lib.hid hst
    replace hBst := Lib.hid hBst
    replace hok0 := Lib.hid hok0
    replace hN := Lib.hid hN
    clear hW hsz
    go_enter Tryz.func28, Tryz.ntmps28
    go_wp2_with fail
    rw [← hN.out]
    go_loopw [10, 24, 43, 50, 53] (fun _ _ _ _ _ wr => ∃ (pos : Nat) (t : RdSt) (v1 v2 : Value), RdW wr N s pos t v1 v2 ∧ RdOk (sl s) pos t ∧ Below N w wr) (fun _ _ _ _ _ wr => s.size - wr.iterPos (N + 5))
    case atStart => exact ⟨0, rd0, _, _, hst.out, hok0.out, hBst.out⟩
    case round =>
      clear hst hBst hok0
      obtain ⟨pos, t, v1, v2, hR, hok, hB⟩ := hrel
      have hRp := Lib.hid hR.pos
      have h5 := hR.2.2.2.2.2.1
      by_cases hp : pos < s.size
      · obtain ⟨c, hc⟩ : ∃ c, c = (s[pos]'hp).toNat := ⟨_, rfl⟩
        have hcs : (sl s)[pos]? = some c := by rw [hc]; exact sl_get s pos hp
        by_cases ha : c < 128
        · have hnx := fun ty => Lib.run_next_ascii_at (P := Tryz.prog) wr (N + 5) s pos ty h5 hp (by rw [← hc]; exact ha)
          have hR1 := hR.next (pos + 1)
          have hB1 := iter_below (s := s) (k := N + 5) (q := pos + 1) hB (by omega)
          rw [← hc] at hnx
          generalize hX : wr.iterAt (N + 5) s (pos + 1) = X at hnx hR1 hB1
          have k0 := hR1.1
          have k3 := hR1.2.2.2.1
          have k4 := hR1.2.2.2.2.1
          have k2 := hR1.2.2.1
          have a0 : X.cell? ⟨N, 0, none⟩ = some (.slice none 0 0) := k0.cell 0
          have a1 : X.cell? ⟨N, 1, none⟩ = some (.slice none 0 0) := k0.cell 1
          have cN : X.cell? ⟨N + 3, 0, none⟩ = some (.int .i64 (t.n : Int)) := k3.cell 0
          have cD : X.cell? ⟨N + 4, 0, none⟩ = some (.int .i64 (t.d : Int)) := k4.cell 0
          have cW : X.cell? ⟨N + 2, 0, none⟩ = some (.bool t.wi) := k2.cell 0
          have fr0 := k0.frozen 0
          have fr1 := k0.frozen 1
          have fr2 := k2.frozen 0
          have fr3 := k3.frozen 0
          have fr4 := k4.frozen 0
          have hn255 := hok.2.2.1
          have hd16 : t.d ≤ 16384 := by have := hok.2.2.2.1; have := hok.2.1; have := hl16.out; omega
          replace hc := Lib.hid hc
          replace hX := Lib.hid hX
          replace h5 := Lib.hid h5
          replace hR := Lib.hid hR
          replace hB := Lib.hid hB
          replace k0 := k0
          clear k2 k3 k4 ha
          obtain ⟨P, Q, wi, n, d⟩ := t
          simp only at cN cD cW hn255 hd16
          by_cases hA : 48 ≤ c ∧ c ≤ 57
          · obtain ⟨hA1, hA2⟩ := hA
            have i1 : (48 : Int) ≤ (c : Int) := by omega
            have i2 : (c : Int) ≤ 57 := by omega
            by_cases hA3 : n < 100
            · have i3 : (n : Int) < 100 := by omega
              obtain ⟨m, hm⟩ : ∃ m, m = 10 * n + (c - 48) := ⟨_, rfl⟩
              have em : 10 * (n : Int) + ((c : Int) - 48) = (m : Int) := by omega
              have hm9 : m ≤ 1000 := by omega
              have hR2 := (hR1.number m).digits (d + 1)
              have hB2 := (hB1.setCell (p := ⟨N + 3, 0, none⟩) (by simp) (.int .i64 (m : Int))).setCell (p := ⟨N + 4, 0, none⟩) (by simp) (.int .i64 ((d + 1 : Nat) : Int))
              by_cases h9 : 255 < m
              · have h9I : (255 : Int) < (m : Int) := by omega
                have hno : rd1 ⟨P, Q, wi, n, d⟩ c = none := by simp only [rd1]; rw [if_pos ⟨hA1, hA2, hA3⟩, if_pos (by rw [← hm]; exact h9)]
                have hout := hok.fail hl16.out hcs hno
                have hBz := (hB2.setCell (p := ⟨N, 0, none⟩) (by simp) (.slice none 0 0)).setCell (p := ⟨N, 1, none⟩) (by simp) (.slice none 0 0)
                have KZ := Lib.hid (Blk.set_ (Blk.set_ hR2.1 0 (.slice none 0 0)) 1 (.slice none 0 0))
                rw [hN.out] at hBz
                have hfin := Lib.hid (retRead_err hout hBz)
                rw [← hN.out] at hfin
                replace hok := Lib.hid hok
                replace hR1 := Lib.hid hR1
                replace hR2 := Lib.hid hR2
                replace hB1 := Lib.hid hB1
                replace hB2 := Lib.hid hB2
                replace hm := Lib.hid hm
                clear hno hout hBz
                go_wp2_with fail
                show bodyPost _ _ _ _ _ ((((X.setCell ⟨N + 3, 0, none⟩ (.int .i64 (m : Int))).setCell ⟨N + 4, 0, none⟩ (.int .i64 ((d + 1 : Nat) : Int))).setCell ⟨N, 0, none⟩ (.slice none 0 0)).setCell ⟨N, 1, none⟩ (.slice none 0 0))
                have q0 := KZ.out.cell 0
                have q1 := KZ.out.cell 1
                push_cast at q0 q1
                refine bodyPost_ret (v := .tuple #[.agg #[.slice none 0 0, .slice none 0 0], .int .i64 220]) (by simp [results, Tryz.results28, go_sem, q0, q1]) rfl ?_
                exact hfin.out
              · have h9I : ¬ (255 : Int) < (m : Int) := by omega
                have hnext := Lib.hid (hok.step (u := ⟨P, Q, wi, m, d + 1⟩) hcs (by simp only [rd1]; rw [if_pos ⟨hA1, hA2, hA3⟩, if_neg (by rw [← hm]; exact h9), ← hm]))
                replace hok := Lib.hid hok
                replace hR1 := Lib.hid hR1
                replace hR2 := Lib.hid hR2
                replace hB1 := Lib.hid hB1
                replace hB2 := Lib.hid hB2
                replace hm := Lib.hid hm
                go_wp2_with fail
                go_roundw
                case rel => exact ⟨pos + 1, _, _, _, hR2.out, hnext.out, hB2.out⟩
                case measure =>
                  refine Nat.lt_of_le_of_lt (Nat.le_of_eq (congrArg (fun q => s.size - q) (hR2.out).pos)) ?_
                  show s.size - (pos + 1) < s.size - wr.iterPos (N + 5)
                  rw [hRp.out]
                  omega
            · have i3 : ¬ (n : Int) < 100 := by omega
              have e42 : ((c : Int) == 42) = false := by rw [beq_eq_false_iff_ne]; omega
              have e40 : ((c : Int) == 40) = false := by rw [beq_eq_false_iff_ne]; omega
              have e32 : ((c : Int) == 32) = false := by rw [beq_eq_false_iff_ne]; omega
              have e41 : ((c : Int) == 41) = false := by rw [beq_eq_false_iff_ne]; omega
              have hno : rd1 ⟨P, Q, wi, n, d⟩ c = none := by
                simp only [rd1]
                rw [if_neg (by omega), if_neg (by omega), if_neg (by omega), if_neg (by omega)]

              have hout := hok.fail hl16.out hcs hno
              have hBz := (hB1.setCell (p := ⟨N, 0, none⟩) (by simp) (.slice none 0 0)).setCell (p := ⟨N, 1, none⟩) (by simp) (.slice none 0 0)
              have KZ := Lib.hid (Blk.set_ (Blk.set_ k0 0 (.slice none 0 0)) 1 (.slice none 0 0))
              rw [hN.out] at hBz
              have hfin := Lib.hid (retRead_err hout hBz)
              rw [← hN.out] at hfin
              replace hok := Lib.hid hok
              replace hR1 := Lib.hid hR1
              replace hB1 := Lib.hid hB1
              clear hno hout hBz
              go_wp2_with fail
              have q0 := KZ.out.cell 0
              have q1 := KZ.out.cell 1
              refine bodyPost_ret (v := .tuple #[.agg #[.slice none 0 0, .slice none 0 0], .int .i64 220]) (by simp [results, Tryz.results28, go_sem, q0, q1]) rfl ?_
              exact hfin.out
          · by_cases hA1 : 57 < c
            · have i1 : (48 : Int) ≤ (c : Int) := by omega
              have i2 : ¬ (c : Int) ≤ 57 := by omega
              have e42 : ((c : Int) == 42) = false := by rw [beq_eq_false_iff_ne]; omega
              have e40 : ((c : Int) == 40) = false := by rw [beq_eq_false_iff_ne]; omega
              have e32 : ((c : Int) == 32) = false := by rw [beq_eq_false_iff_ne]; omega
              have e41 : ((c : Int) == 41) = false := by rw [beq_eq_false_iff_ne]; omega
              have hno : rd1 ⟨P, Q, wi, n, d⟩ c = none := by
                simp only [rd1]
                rw [if_neg (by omega), if_neg (by omega), if_neg (by omega), if_neg (by omega)]

              have hout := hok.fail hl16.out hcs hno
              have hBz := (hB1.setCell (p := ⟨N, 0, none⟩) (by simp) (.slice none 0 0)).setCell (p := ⟨N, 1, none⟩) (by simp) (.slice none 0 0)
              have KZ := Lib.hid (Blk.set_ (Blk.set_ k0 0 (.slice none 0 0)) 1 (.slice none 0 0))
              rw [hN.out] at hBz
              have hfin := Lib.hid (retRead_err hout hBz)
              rw [← hN.out] at hfin
              replace hok := Lib.hid hok
              replace hR1 := Lib.hid hR1
              replace hB1 := Lib.hid hB1
              clear hno hout hBz
              go_wp2_with fail
              have q0 := KZ.out.cell 0
              have q1 := KZ.out.cell 1
              refine bodyPost_ret (v := .tuple #[.agg #[.slice none 0 0, .slice none 0 0], .int .i64 220]) (by simp [results, Tryz.results28, go_sem, q0, q1]) rfl ?_
              exact hfin.out
            · have hc48 : c < 48 := by omega
              have i1 : ¬ (48 : Int) ≤ (c : Int) := by omega
              by_cases h42 : c = 42
              · subst h42
                by_cases hd0 : d = 0
                · subst hd0
                  have hR2 := Lib.hid ((hR1.number 255).digits 1)
                  have hB2 := Lib.hid ((hB1.setCell (p := ⟨N + 3, 0, none⟩) (by simp) (.int .i64 ((255 : Nat) : Int))).setCell (p := ⟨N + 4, 0, none⟩) (by simp) (.int .i64 ((1 : Nat) : Int)))
                  have hnext := Lib.hid (hok.step (u := ⟨P, Q, wi, 255, 1⟩) hcs (by simp [rd1]))
                  replace hok := Lib.hid hok
                  replace hR1 := Lib.hid hR1
                  replace hB1 := Lib.hid hB1
                  go_wp2_with fail
                  go_roundw
                  case rel => exact ⟨pos + 1, _, _, _, hR2.out, hnext.out, hB2.out⟩
                  case measure =>
                    refine Nat.lt_of_le_of_lt (Nat.le_of_eq (congrArg (fun q => s.size - q) (hR2.out).pos)) ?_
                    show s.size - (pos + 1) < s.size - wr.iterPos (N + 5)
                    rw [hRp.out]
                    omega
                · have hdI : ((d : Int) == 0) = false := by rw [beq_eq_false_iff_ne]; omega
                  have hno : rd1 ⟨P, Q, wi, n, d⟩ 42 = none := by
                    simp only [rd1]
                    rw [if_neg (by omega), if_neg (by omega), if_neg (by omega), if_neg (by omega)]
                  have hout := hok.fail hl16.out hcs hno
                  have hBz := (hB1.setCell (p := ⟨N, 0, none⟩) (by simp) (.slice none 0 0)).setCell (p := ⟨N, 1, none⟩) (by simp) (.slice none 0 0)
                  have KZ := Lib.hid (Blk.set_ (Blk.set_ k0 0 (.slice none 0 0)) 1 (.slice none 0 0))
                  rw [hN.out] at hBz
                  have hfin := Lib.hid (retRead_err hout hBz)
                  rw [← hN.out] at hfin
                  replace hok := Lib.hid hok
                  replace hR1 := Lib.hid hR1
                  replace hB1 := Lib.hid hB1
                  clear hno hout hBz
                  go_wp2_with fail
                  have q0 := KZ.out.cell 0
                  have q1 := KZ.out.cell 1
                  refine bodyPost_ret (v := .tuple #[.agg #[.slice none 0 0, .slice none 0 0], .int .i64 220]) (by simp [results, Tryz.results28, go_sem, q0, q1]) rfl ?_
                  exact hfin.out
              · have e42 : ((c : Int) == 42) = false := by rw [beq_eq_false_iff_ne]; omega
                by_cases h40 : c = 40
                · subst h40
                  have h9I : ¬ (255 : Int) < (n : Int) := by omega
                  have hR2 := Lib.hid (hR1.within true)
                  have hB2 := Lib.hid (hB1.setCell (p := ⟨N + 2, 0, none⟩) (by simp) (.bool true))
                  have hnext := Lib.hid (hok.step (u := ⟨P, Q, true, n, d⟩) hcs (by simp [rd1]))
                  replace hok := Lib.hid hok
                  replace hR1 := Lib.hid hR1
                  replace hB1 := Lib.hid hB1
                  clear e42
                  go_wp2_with fail
                  go_roundw
                  case rel => exact ⟨pos + 1, _, _, _, hR2.out, hnext.out, hB2.out⟩
                  case measure =>
                    refine Nat.lt_of_le_of_lt (Nat.le_of_eq (congrArg (fun q => s.size - q) (hR2.out).pos)) ?_
                    show s.size - (pos + 1) < s.size - wr.iterPos (N + 5)
                    rw [hRp.out]
                    omega
                · have e40 : ((c : Int) == 40) = false := by rw [beq_eq_false_iff_ne]; omega
                  by_cases hsp : c = 32 ∨ c = 41
                  · have hnext := hok.step (u := RdSt.end_ ⟨P, Q, wi, n, d⟩) hcs (by simp only [rd1]; rw [if_neg (by omega), if_neg (by omega), if_neg (by omega), if_pos hsp])
                    have hcl := rdEnd_any N X s (pos + 1) ⟨P, Q, wi, n, d⟩ v1 v2 hR1 hok.2.2.1 (by have := hok.2.2.2.2.1; have := hok.2.1; have := hl16.out; simp only at *; omega) (by have := hok.2.2.2.2.1; have := hok.2.1; have := hl16.out; simp only at *; omega)
                    have hn9 := hnext.2.2.1
                    replace hnext := Lib.hid hnext
                    replace hcl := Lib.hid hcl
                    replace hok := Lib.hid hok
                    replace hR1 := Lib.hid hR1
                    rcases hsp with rfl | rfl
                    · clear e42 e40
                      go_wp2_with fail
                      refine hcl.out.mono ?_
                      rintro en Y ⟨b, x1, x2, rfl, hR2, hb⟩
                      have cN2 : Y.cell? ⟨N + 3, 0, none⟩ = some (.int .i64 ((RdSt.end_ ⟨P, Q, wi, n, d⟩).n : Int)) := hR2.2.2.2.1.cell 0
                      have hB2 := Lib.hid (hB1.trans (hb.mono (by have := hB1.size; omega)))
                      obtain ⟨n2, hn2⟩ : ∃ n2, n2 = (RdSt.end_ ⟨P, Q, wi, n, d⟩).n := ⟨_, rfl⟩
                      rw [← hn2] at cN2 hn9
                      have h9I : ¬ (255 : Int) < (n2 : Int) := by omega
                      replace hR2 := Lib.hid hR2
                      replace hn2 := Lib.hid hn2
                      clear hb hcl cN cD cW fr0 fr1 fr2 fr3 fr4 a0 a1 k0
                      go_wp2_with fail
                      go_roundw
                      case rel => exact ⟨pos + 1, _, _, _, hR2.out, hnext.out, hB2.out⟩
                      case measure =>
                        refine Nat.lt_of_le_of_lt (Nat.le_of_eq (congrArg (fun q => s.size - q) (hR2.out).pos)) ?_
                        show s.size - (pos + 1) < s.size - wr.iterPos (N + 5)
                        rw [hRp.out]
                        omega
                    · have e32 : (((41 : Nat) : Int) == 32) = false := by decide
                      clear e42 e40
                      go_wp2_with fail
                      refine hcl.out.mono ?_
                      rintro en Y ⟨b, x1, x2, rfl, hR2, hb⟩
                      have cN2 : Y.cell? ⟨N + 3, 0, none⟩ = some (.int .i64 ((RdSt.end_ ⟨P, Q, wi, n, d⟩).n : Int)) := hR2.2.2.2.1.cell 0
                      have hB2 := Lib.hid (hB1.trans (hb.mono (by have := hB1.size; omega)))
                      obtain ⟨n2, hn2⟩ : ∃ n2, n2 = (RdSt.end_ ⟨P, Q, wi, n, d⟩).n := ⟨_, rfl⟩
                      rw [← hn2] at cN2 hn9
                      have h9I : ¬ (255 : Int) < (n2 : Int) := by omega
                      replace hR2 := Lib.hid hR2
                      replace hn2 := Lib.hid hn2
                      clear hb hcl cN cD cW fr0 fr1 fr2 fr3 fr4 a0 a1 k0
                      go_wp2_with fail
                      go_roundw
                      case rel => exact ⟨pos + 1, _, _, _, hR2.out, hnext.out, hB2.out⟩
                      case measure =>
                        refine Nat.lt_of_le_of_lt (Nat.le_of_eq (congrArg (fun q => s.size - q) (hR2.out).pos)) ?_
                        show s.size - (pos + 1) < s.size - wr.iterPos (N + 5)
                        rw [hRp.out]
                        omega
                  · have e32 : ((c : Int) == 32) = false := by rw [beq_eq_false_iff_ne]; omega
                    have e41 : ((c : Int) == 41) = false := by rw [beq_eq_false_iff_ne]; omega
                    have hno : rd1 ⟨P, Q, wi, n, d⟩ c = none := by
                      simp only [rd1]
                      rw [if_neg (by omega), if_neg (by omega), if_neg (by omega), if_neg hsp]
                    have hout := hok.fail hl16.out hcs hno
                    have hBz := (hB1.setCell (p := ⟨N, 0, none⟩) (by simp) (.slice none 0 0)).setCell (p := ⟨N, 1, none⟩) (by simp) (.slice none 0 0)
                    have KZ := Lib.hid (Blk.set_ (Blk.set_ k0 0 (.slice none 0 0)) 1 (.slice none 0 0))
                    rw [hN.out] at hBz
                    have hfin := Lib.hid (retRead_err hout hBz)
                    rw [← hN.out] at hfin
                    replace hok := Lib.hid hok
                    replace hR1 := Lib.hid hR1
                    replace hB1 := Lib.hid hB1
                    clear hno hout hBz
                    go_wp2_with fail
                    have q0 := KZ.out.cell 0
                    have q1 := KZ.out.cell 1
                    refine bodyPost_ret (v := .tuple #[.agg #[.slice none 0 0, .slice none 0 0], .int .i64 220]) (by simp [results, Tryz.results28, go_sem, q0, q1]) rfl ?_
                    exact hfin.out
        · obtain ⟨r, hr⟩ : ∃ r, r = (Utf8.decode s pos).1 := ⟨_, rfl⟩
          obtain ⟨q, hq⟩ : ∃ q, q = pos + (Utf8.decode s pos).2 := ⟨_, rfl⟩
          have hr1 : 128 ≤ r := by rw [hr]; exact (decode_high s pos hp (by rw [← hc]; omega)).1
          have hr2 : r ≤ 2147483647 := by rw [hr]; exact decode_le s pos
          have hnx := fun ty => Lib.run_next_any_at (P := Tryz.prog) wr (N + 5) s pos ty h5 hp
          rw [← hr, ← hq] at hnx
          have hR1 := hR.next q
          have hB1 := iter_below (s := s) (k := N + 5) (q := q) hB (by omega)
          generalize hX : wr.iterAt (N + 5) s q = X at hnx hR1 hB1
          have k0 := hR1.1
          have a0 : X.cell? ⟨N, 0, none⟩ = some (.slice none 0 0) := k0.cell 0
          have a1 : X.cell? ⟨N, 1, none⟩ = some (.slice none 0 0) := k0.cell 1
          have fr0 := k0.frozen 0
          have fr1 := k0.frozen 1
          have i1 : (48 : Int) ≤ (r : Int) := by omega
          have i2 : ¬ (r : Int) ≤ 57 := by omega
          obtain ⟨P, Q, wi, n, d⟩ := t
          replace hc := Lib.hid hc
          replace hr := Lib.hid hr
          replace hq := Lib.hid hq
          replace hX := Lib.hid hX
          replace h5 := Lib.hid h5
          replace hR := Lib.hid hR
          replace hB := Lib.hid hB
          have e42 : ((r : Int) == 42) = false := by rw [beq_eq_false_iff_ne]; omega
          have e40 : ((r : Int) == 40) = false := by rw [beq_eq_false_iff_ne]; omega
          have e32 : ((r : Int) == 32) = false := by rw [beq_eq_false_iff_ne]; omega
          have e41 : ((r : Int) == 41) = false := by rw [beq_eq_false_iff_ne]; omega
          have hno : rd1 ⟨P, Q, wi, n, d⟩ c = none := by
            simp only [rd1]
            rw [if_neg (by omega), if_neg (by omega), if_neg (by omega), if_neg (by omega)]

          have hout := hok.fail hl16.out hcs hno
          have hBz := (hB1.setCell (p := ⟨N, 0, none⟩) (by simp) (.slice none 0 0)).setCell (p := ⟨N, 1, none⟩) (by simp) (.slice none 0 0)
          have KZ := Lib.hid (Blk.set_ (Blk.set_ k0 0 (.slice none 0 0)) 1 (.slice none 0 0))
          rw [hN.out] at hBz
          have hfin := Lib.hid (retRead_err hout hBz)
          rw [← hN.out] at hfin
          replace hok := Lib.hid hok
          replace hR1 := Lib.hid hR1
          replace hB1 := Lib.hid hB1
          clear hno hout hBz
          go_wp2_with fail
          have q0 := KZ.out.cell 0
          have q1 := KZ.out.cell 1
          refine bodyPost_ret (v := .tuple #[.agg #[.slice none 0 0, .slice none 0 0], .int .i64 220]) (by simp [results, Tryz.results28, go_sem, q0, q1]) rfl ?_
          exact hfin.out
      · obtain rfl : pos = s.size := by have := hok.2.1; rw [hlen.out] at this; omega
        have hnx := fun ty => Lib.run_next_end_at (P := Tryz.prog) wr (N + 5) s s.size ty h5 hp
        rw [← hlen.out] at hok
        obtain ⟨P, Q, wi, n, d⟩ := t
        obtain ⟨k0, k1, k2, k3, k4, k5, o1, o2, o3⟩ := hR
        simp only at o1 o2
        have b1 := hok.2.2.2.2.1
        have b6 := hok.2.2.2.2.2.1
        have b7 := hok.2.2.2.2.2.2
        simp only at b1 b6 b7
        have hl := hl16.out
        have hNs : N ≤ wr.heap.size := Nat.le_of_lt k0.lt
        obtain ⟨A1, c1, rfl⟩ : ∃ A c, v1 = .slice A P.length c := by
          rcases own_forms o1 with ⟨e, e2⟩ | ⟨g, c, e⟩
          · exact ⟨none, 0, by rw [e, e2]⟩
          · exact ⟨_, _, e⟩
        obtain ⟨A2, c2, rfl⟩ : ∃ A c, v2 = .slice A Q.length c := by
          rcases own_forms o2 with ⟨e, e2⟩ | ⟨g, c, e⟩
          · exact ⟨none, 0, by rw [e, e2]⟩
          · exact ⟨_, _, e⟩
        have hI : Itn wr (.slice A1 P.length c1) (.slice A2 Q.length c2) P Q := ⟨⟨_, _, _, _, rfl, own_rdn o1⟩, ⟨_, _, _, _, rfl, own_rdn o2⟩, b6, b7, by omega, by omega⟩
        obtain ⟨p, hpl⟩ : ∃ p, p = P.length := ⟨_, rfl⟩
        obtain ⟨q, hql⟩ : ∃ q, q = Q.length := ⟨_, rfl⟩
        rw [← hpl] at hI o1 k1
        rw [← hql] at hI o2 k1
        have y0 : wr.cell? ⟨N + 1, 0, none⟩ = some (.slice A1 p c1) := k1.cell 0
        have y1 : wr.cell? ⟨N + 1, 1, none⟩ = some (.slice A2 q c2) := k1.cell 1
        replace hpl := Lib.hid hpl
        replace hql := Lib.hid hql
        replace hI := Lib.hid hI
        replace o1 := Lib.hid o1
        replace o2 := Lib.hid o2
        replace k0 := Lib.hid k0
        replace k1 := Lib.hid k1
        replace hB := Lib.hid hB
        replace hok := Lib.hid hok
        replace h5 := Lib.hid h5
        clear k2 k3 k4 k5 o3 b1 b6 b7 hl
        go_wp2_with fail
        obtain ⟨tx, htx⟩ : ∃ tx, tx = if mayI P Q then mkS (textL P Q) else ⟨#[]⟩ := ⟨_, rfl⟩
        refine (iText_any _ _ P Q _ hI.out tx htx).mono ?_
        rintro en Y ⟨rfl, hb⟩
        have K0 := Lib.hid (Blk.below k0.out hb)
        have K1 := Lib.hid (Blk.below k1.out hb)
        have O1 := Lib.hid (own_below o1.out hb)
        have O2 := Lib.hid (own_below o2.out hb)
        have hB2 := Lib.hid (hB.out.trans (hb.mono hNs))
        have a0 : Y.cell? ⟨N, 0, none⟩ = some (.slice none 0 0) := K0.out.cell 0
        have a1 : Y.cell? ⟨N, 1, none⟩ = some (.slice none 0 0) := K0.out.cell 1
        have fr0 := K0.out.frozen 0
        have fr1 := K0.out.frozen 1
        have z0 : Y.cell? ⟨N + 1, 0, none⟩ = some (.slice A1 p c1) := K1.out.cell 0
        have z1 : Y.cell? ⟨N + 1, 1, none⟩ = some (.slice A2 q c2) := K1.out.cell 1
        replace htx := Lib.hid htx
        clear hb y0 y1 k0 k1 o1 o2 hB hI
        by_cases hgood : mayI P Q = true ∧ textL P Q = sl s
        · obtain ⟨hm, he⟩ := hgood
          obtain rfl : tx = s := by
            rw [htx.out, if_pos hm, he]
            exact sl_inj (sl_mk _ (sl_lt s))
          rw [mayI_yes hm]
          have hss : (tx.toList == tx.toList) = true := by simp
          have hfin : RetRead (sl tx) w (.returned (.tuple #[.agg #[.slice A1 p c1, .slice A2 q c2], .int .i64 0])) ((Y.setCell ⟨N, 0, none⟩ (.slice A1 p c1)).setCell ⟨N, 1, none⟩ (.slice A2 q c2)) := by
            refine ⟨P, Q, 0, .inr ⟨hl16.out, .inl ⟨hm, he, rfl⟩⟩, _, _, rfl, ?_, ?_, ?_⟩
            · rw [← hN.out]
              exact (Pf.of_own (n := p) (ownsRow_setCell_below (ownsRow_setCell_below (by rw [hpl.out]; have := O1.out; rwa [hpl.out] at this) (by simp) _) (by simp) _)).le (by omega)
            · rw [← hN.out]
              exact (Pf.of_own (n := q) (ownsRow_setCell_below (ownsRow_setCell_below (by rw [hql.out]; have := O2.out; rwa [hql.out] at this) (by simp) _) (by simp) _)).le (by omega)
            · rw [← hN.out]
              exact (hB2.out.setCell (p := ⟨N, 0, none⟩) (by simp) _).setCell (p := ⟨N, 1, none⟩) (by simp) _
          have KZ := Lib.hid (Blk.set_ (Blk.set_ K0.out 0 (.slice A1 p c1)) 1 (.slice A2 q c2))
          replace hfin := Lib.hid hfin
          clear hm he
          go_wp2_with fail
          have q0 := KZ.out.cell 0
          have q1 := KZ.out.cell 1
          refine bodyPost_ret (v := .tuple #[.agg #[.slice A1 p c1, .slice A2 q c2], .int .i64 0]) (by simp [results, Tryz.results28, go_sem, q0, q1]) rfl ?_
          exact hfin.out
        · have hout := hok.out.done hl16.out hgood
          have hBz := (hB2.out.setCell (p := ⟨N, 0, none⟩) (by simp) (.slice none 0 0)).setCell (p := ⟨N, 1, none⟩) (by simp) (.slice none 0 0)
          have KZ := Lib.hid (Blk.set_ (Blk.set_ K0.out 0 (.slice none 0 0)) 1 (.slice none 0 0))
          rw [hN.out] at hBz
          have hfin := Lib.hid (retRead_err hout hBz)
          rw [← hN.out] at hfin
          cases hm : mayI P Q
          · rw [mayI_no hm]
            clear hgood hout hBz hm
            go_wp2_with fail
            have q0 := KZ.out.cell 0
            have q1 := KZ.out.cell 1
            refine bodyPost_ret (v := .tuple #[.agg #[.slice none 0 0, .slice none 0 0], .int .i64 220]) (by simp [results, Tryz.results28, go_sem, q0, q1]) rfl ?_
            exact hfin.out
          · rw [mayI_yes hm]
            have hne : (tx.toList == s.toList) = false := by
              rw [beq_eq_false_iff_ne]
              intro h
              apply hgood
              refine ⟨hm, ?_⟩
              have e : tx = s := toList_inj h
              rw [← e, htx.out, if_pos hm]
              exact (sl_mk _ (textL_lt hm)).symm
            clear hgood hout hBz hm
            go_wp2_with fail
            have q0 := KZ.out.cell 0
            have q1 := KZ.out.cell 1
            refine bodyPost_ret (v := .tuple #[.agg #[.slice none 0 0, .slice none 0 0], .int .i64 220]) (by simp [results, Tryz.results28, go_sem, q0, q1]) rfl ?_
            exact hfin.out
end Go.Proofs.YtbddlbhanpjdnaaGreatDoor
