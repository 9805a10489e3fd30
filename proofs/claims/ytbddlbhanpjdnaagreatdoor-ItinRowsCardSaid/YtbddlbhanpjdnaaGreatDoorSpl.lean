/- filigreelaw22.spoil: rows of one's own are written over. -/
import Derived.Test.YtbddlbhanpjdnaaGreatDoorRefR
import Derived.ArgAppend
namespace Go.Proofs.YtbddlbhanpjdnaaGreatDoor
open Go.RowKit Go.Sort

/-- B is A, but for the blocks of r and for new ones. -/
structure But (r : Nat → Prop) (A B : World) : Prop where
  os : B.os = A.os
  tape : B.tape = A.tape
  output : B.output = A.output
  size : A.heap.size ≤ B.heap.size
  block : ∀ k, k < A.heap.size → ¬ r k → B.heap[k]? = A.heap[k]?

section
variable {r r' : Nat → Prop} {A B C : World}
theorem But.refl (r : Nat → Prop) (A : World) : But r A A := ⟨rfl, rfl, rfl, Nat.le_refl _, fun _ _ _ => rfl⟩
theorem But.trans (h : But r A B) (k : But r B C) : But r A C :=
  ⟨k.os.trans h.os, k.tape.trans h.tape, k.output.trans h.output, Nat.le_trans h.size k.size, fun i hi hn => (k.block i (Nat.lt_of_lt_of_le hi h.size) hn).trans (h.block i hi hn)⟩
theorem But.wide (h : But r A B) (hr : ∀ k, k < A.heap.size → r k → r' k) : But r' A B := ⟨h.os, h.tape, h.output, h.size, fun k hk hn => h.block k hk (fun e => hn (hr k hk e))⟩
theorem But.of_below (h : Below A.heap.size A B) : But r A B := ⟨h.os, h.tape, h.output, h.size, fun k hk _ => h.block k hk⟩
theorem But.below (h : But r A B) (k : Below B.heap.size B C) : But r A C := h.trans (But.of_below k)
theorem But.alloc (h : But r A B) (o : Obj) : But r A (B.alloc o) := h.trans ⟨rfl, rfl, rfl, by simp, fun k hk _ => Below.heap_alloc B o k hk⟩
theorem But.setCell (h : But r A B) {p : Addr} (hp : r p.block ∨ A.heap.size ≤ p.block) (v : Value) : But r A (B.setCell p v) :=
  ⟨h.os, h.tape, h.output, by have := h.size; simpa [World.setCell] using this, fun k hk hn => (Below.heap_setCell B p v k (fun e => by
    rcases hp with hp | hp
    · exact hn (by rw [e]; exact hp)
    · omega)).trans (h.block k hk hn)⟩
theorem But.grown (h : But r A B) {row : Option Nat} (hg : B.grownBy C row) (hr : ∀ k, row = some k → r k) : But r A C :=
  h.trans ⟨hg.os, hg.tape, hg.output, hg.size, fun k hk hn => hg.block k hk (fun e => hn (hr k e.symm))⟩
theorem But.toBelow (h : But r A B) {n : Nat} (hn : n ≤ A.heap.size) (hr : ∀ k, k < n → ¬ r k) : Below n A B := ⟨h.os, h.tape, h.output, h.size, fun k hk => h.block k (by omega) (hr k hk)⟩
end

/-- A slice of bytes of one's own, that may be written over. -/
def Sp (w : World) (v : Value) (n : Nat) : Prop :=
  ∃ A c, v = .slice A n c ∧ n ≤ c ∧ c ≤ maxLen ∧ (A = none → c = 0) ∧ (0 < c → ∃ g cur, A = some ⟨g, 0, none⟩ ∧ w.heap[g]? = some (.cells cur 5 (0, 0)) ∧ c ≤ cur.size)

section
variable {w w' : World} {v : Value} {n : Nat}
theorem Sp.keep (h : Sp w v n) (hk : ∀ g, g < w.heap.size → w'.heap[g]? = w.heap[g]?) : Sp w' v n := by
  obtain ⟨A, c, rfl, h1, h2, h3, h4⟩ := h
  refine ⟨A, c, rfl, h1, h2, h3, fun hc => ?_⟩
  obtain ⟨g, cur, rfl, hh, hs⟩ := h4 hc
  exact ⟨g, cur, rfl, (hk g (heap_lt hh)).trans hh, hs⟩
theorem Sp.alloc (h : Sp w v n) (o : Obj) : Sp (w.alloc o) v n := h.keep fun g hg => Below.heap_alloc w o g hg
theorem Sp.below (h : Sp w v n) (hb : Below w.heap.size w w') : Sp w' v n := h.keep hb.block
theorem Sp.set (h : Sp w v n) (b i : Nat) (u : Value) : Sp (w.setCell ⟨b, i, none⟩ u) v n := by
  obtain ⟨A, c, rfl, h1, h2, h3, h4⟩ := h
  refine ⟨A, c, rfl, h1, h2, h3, fun hc => ?_⟩
  obtain ⟨g, cur, rfl, hh, hs⟩ := h4 hc
  by_cases e : g = b
  · subst e; exact ⟨g, _, rfl, Blk.set_ hh i u, by simpa using hs⟩
  · exact ⟨g, cur, rfl, Blk.far hh e u, hs⟩
theorem Sp.of_pc {B : Nat} {l : List Nat} (h : Pc w B v l) (hl : l.length ≤ maxLen) : Sp w v l.length := by
  obtain ⟨h, A, rfl⟩ := h
  by_cases hn : l = []
  · subst hn
    exact ⟨A, 0, rfl, Nat.le_refl _, Nat.zero_le _, fun _ => rfl, fun h => by omega⟩
  · obtain ⟨g, cur, rfl, -, hh, hc⟩ := h.open_ hn
    refine ⟨_, _, rfl, Nat.le_refl _, hl, (fun e => by cases e), fun _ => ⟨g, cur, rfl, hh, ?_⟩⟩
    rcases Nat.lt_or_ge cur.size l.length with hlt | hge
    · obtain ⟨x, hx⟩ : ∃ x, l[cur.size]? = some x := ⟨_, List.getElem?_eq_getElem hlt⟩
      have h1 := hc _ _ hx
      rw [cell_of_row w g _ cur _ _ hh] at h1
      simp at h1
    · exact hge
theorem Sp.of_own {base m : Nat} {xs : List Value} {A : Option Addr} {c : Nat} (h : w.ownsRow base 5 1 (.slice A m c) m xs) (hn : n ≤ m) : Sp w (.slice A n c) n := by
  rcases h.2 with ⟨e, -⟩ | ⟨g, cap, cur, e, -, hh, h1, h2, h3, -⟩
  · injection e with e1 e2 e3
    subst e1 e2 e3
    exact ⟨none, 0, by rw [Nat.le_zero.1 hn], by omega, Nat.zero_le _, fun _ => rfl, fun h => by omega⟩
  · injection e with e1 e2 e3
    subst e1 e3
    exact ⟨_, _, rfl, by omega, h2, (fun e => by cases e), fun _ => ⟨g, cur, rfl, hh, by omega⟩⟩
end

/-- What writing some bytes does. -/
theorem setCells_facts (b : Nat) : ∀ (news : List Value) (o : Nat) (w : World), But (fun k => k = b) w (w.setCells b o news) ∧ (∀ u k, Sp w u k → Sp (w.setCells b o news) u k) ∧
    (∀ g T cs, g ≠ b → Blk w g T cs → Blk (w.setCells b o news) g T cs)
  | [], _, w => ⟨But.refl _ w, fun _ _ h => h, fun _ _ _ _ h => h⟩
  | v :: r, o, w => by
    obtain ⟨h1, h2, h3⟩ := setCells_facts b r (o + 1) (w.setCell ⟨b, o, none⟩ v)
    exact ⟨((But.refl (fun k => k = b) w).setCell (p := ⟨b, o, none⟩) (.inl rfl) v).trans h1, fun u k h => h2 u k (h.set b o v), fun g T cs hg h => h3 g T cs hg (Blk.far h hg v)⟩

/-- The block that a slice's own writes touch. -/
def WrB (v : Value) (k : Nat) : Prop := ∃ n c, v = .slice (some ⟨k, 0, none⟩) n c ∧ 0 < c

/-- append to a slice of bytes of one's own, room or none. -/
theorem wpList_append_sp {P : Program} {w : World} {ops : Array Oper} {rest : List Oper} {o : Oper} {a : Act} {Q : Exit → Act → World → Prop}
    (hg : o.guard = none) (s x : Operand) (t : TypeId) (hop : o.op = Op.call { callee := Callee.builtin Builtin.append, args := #[s, x], argTypes := #[t, t] })
    (i : TypeInfo) (z : Value) (h1 : P.underlying t = some (.slice 5)) (h2 : P.info? 5 = some i) (h3 : i.zero = some z) (h4 : i.size = 1) (h5 : i.bytes = 1) (h6 : z.cells.size = 1)
    {v : Value} {n : Nat} (hs : a.eval s = v) (h : Sp w v n)
    (ad : Addr) (m c : Nat) (news : List Value) (hx : a.eval x = .slice (some ad) m c) (hn : news.length = m) (hc : ∀ j u, news[j]? = some u → w.cell? (ad.add j) = some u) (h1c : ∀ u ∈ news, u.oneCell' = true)
    (b1 : n + m ≤ 140737488355328) (hm : 0 < m)
    (hK : ∀ v' w', (∃ A c, v' = .slice A (n + m) c) → But (fun k => WrB v k) w w' → (∀ u k, Sp w u k → Sp w' u k) → (∀ g T cs, T ≠ 5 → Blk w g T cs → Blk w' g T cs) → wpList P ops Q rest (a.put o.dst v') w') :
    wpList P ops Q (o :: rest) a w := by
  obtain ⟨A, cap, rfl, k1, k2, k3, k4⟩ := h
  have b2 : n + m ≤ maxLen := by unfold maxLen; omega
  have grow : ∀ olds v' w', w'.ownsRow w.heap.size 5 1 v' (n + m) olds → w.grownBy w' none → wpList P ops Q rest (a.put o.dst v') w' := fun olds v' w' ho hgr =>
    hK v' w' (own_forms3 ho) ((But.refl _ w).grown hgr (fun k hk => by cases hk)) (fun u k hu => hu.keep fun g hg => hgr.block g hg (by simp)) (fun g T cs _ hb => Blk.grown hb hgr (by simp))
  by_cases hcap : 0 < cap
  · obtain ⟨g, cur, rfl, hh, hsz⟩ := k4 hcap
    have hcell : ∀ j, j < cap → ∃ u, cur[j]? = some u ∧ w.cell? ⟨g, j, none⟩ = some u := fun j hj => by
      obtain ⟨u, hu⟩ : ∃ u, cur[j]? = some u := ⟨_, Array.getElem?_eq_getElem (by omega)⟩
      exact ⟨u, hu, by rw [cell_of_row w g _ cur _ _ hh]; exact hu⟩
    have holds : ∀ j u, (cur.toList.take n)[j]? = some u → w.cell? ⟨g, 0 + j, none⟩ = some u := fun j u hu => by
      obtain ⟨hj, e⟩ := List.getElem?_eq_some_iff.1 hu
      rw [List.length_take] at hj
      rw [Nat.zero_add, cell_of_row w g _ cur _ _ hh, ← Array.getElem?_toList]
      rw [List.getElem_take] at e
      exact List.getElem?_eq_some_iff.2 ⟨by omega, e⟩
    have hll : (cur.toList.take n).length = n * 1 := by rw [List.length_take, Array.length_toList]; omega
    by_cases hr : n + m ≤ cap
    · refine wpList_append_arg w hg s x t hop 5 i z 1 1 h1 h2 h3 h4 h5 h6 (by decide) g 0 n cap (cur.toList.take n) hs hll holds ad m c news hx (by omega) hc h1c (fun _ j hj => ?_) b2 (by omega) (fun _ => ?_) (fun hgt => by omega)
      · obtain ⟨u, -, hu⟩ := hcell (0 + n * 1 + j) (by omega)
        exact ⟨by rw [hu]; rfl, Blk.frozen hh _⟩
      · obtain ⟨f1, f2, f3⟩ := setCells_facts g news (0 + n * 1) w
        refine hK _ _ ⟨_, _, rfl⟩ (f1.wide (fun k _ e => by subst e; exact ⟨_, _, rfl, hcap⟩)) f2 (fun g' T cs hT hb => f3 g' T cs (fun e => ?_) hb)
        subst e
        unfold Blk at hb
        rw [hh] at hb
        injection hb with hb
        injection hb with _ hb
        exact hT hb.symm
    · refine wpList_append_grows w hg s x t hop 5 i z 1 1 h1 h2 h3 h4 h5 h6 (by decide) (some ⟨g, 0, none⟩) n cap (cur.toList.take n) hs (fun e => by cases e) hll (fun b e j u hu => ?_) ad m c news hx (by omega) hc h1c (by omega) b2 (by omega) (fun v' w' => grow _ v' w')
      cases e
      rw [Addr.add_lit]
      exact holds j u hu
  · obtain rfl : n = 0 := by omega
    obtain rfl : cap = 0 := by omega
    exact wpList_append_grows w hg s x t hop 5 i z 1 1 h1 h2 h3 h4 h5 h6 (by decide) A 0 0 [] hs (fun _ => ⟨rfl, rfl⟩) rfl (fun b e j u hu => by simp at hu) ad m c news hx (by omega) hc h1c (by omega) b2 (by omega) (fun v' w' => grow _ v' w')

/-- Two new cells. -/
theorem two_new (w : World) (x y : Value) : ∀ j u, [x, y][j]? = some u → (w.alloc (.cells #[x, y] 5)).cell? ((⟨w.heap.size, 0, none⟩ : Addr).add j) = some u := fun j u hu => by
  rw [Addr.add_lit, Nat.zero_add, cell_of_row _ _ _ #[x, y] 5 (0, 0) (heap_alloc_new w _)]
  simpa using hu

/-- The outcome: nothing is told; the world but for some blocks. -/
def RetBut (r : Nat → Prop) (w : World) (e : Ending) (w' : World) : Prop := e = .returned (.tuple #[]) ∧ But r w w'

set_option maxRecDepth 100000 in
set_option maxHeartbeats 2000000 in
/-- filigreelaw22.spoil -/
theorem spoil_any (v1 v2 : Value) (n1 n2 : Nat) (w : World) (h1 : Sp w v1 n1) (h2 : Sp w v2 n2) (l1 : n1 ≤ 140737488355000) (l2 : n2 ≤ 140737488355000) :
    Calls Tryz.prog 15 #[.agg #[v1, v2]] w (RetBut (fun k => WrB v1 k ∨ WrB v2 k) w) := by
  obtain ⟨i0, hi0, hz0, hz1, hz2⟩ := info_parts info_u8
  have g1 := h1
  have g2 := h2
  obtain ⟨A1, c1, e1, -⟩ := g1
  obtain ⟨A2, c2, e2, -⟩ := g2
  subst e1 e2
  have kb := Blk.new w 30 #[.slice A1 n1 c1, .slice A2 n2 c2]
  have hBu : But (fun k => WrB (Value.slice A1 n1 c1) k ∨ WrB (Value.slice A2 n2 c2) k) w (w.alloc (.cells #[.slice A1 n1 c1, .slice A2 n2 c2] 30)) := (But.refl _ w).alloc _
  have s1 := Sp.alloc h1 (.cells #[.slice A1 n1 c1, .slice A2 n2 c2] 30)
  have s2 := Sp.alloc h2 (.cells #[.slice A1 n1 c1, .slice A2 n2 c2] 30)
  replace kb := Lib.hid kb
  replace hBu := Lib.hid hBu
  replace s1 := Lib.hid s1
  replace s2 := Lib.hid s2
  clear h1 h2
  go_enter Tryz.func15, Tryz.ntmps15
  go_wp2_with fail
  go_loopw [2] (fun iv wr => ∃ i : Nat, iv = .int .i64 (i : Int) ∧ i ≤ n1 ∧ Blk wr w.heap.size 30 #[.slice A1 n1 c1, .slice A2 n2 c2] ∧ Sp wr (.slice A1 n1 c1) n1 ∧ Sp wr (.slice A2 n2 c2) n2 ∧ But (fun k => WrB (Value.slice A1 n1 c1) k ∨ WrB (Value.slice A2 n2 c2) k) w wr) (fun iv _ => n1 - (intOf iv).toNat)
  case atStart => exact ⟨0, rfl, Nat.zero_le _, kb.out, s1.out, s2.out, hBu.out⟩
  case round =>
    clear kb s1 s2 hBu
    obtain ⟨i, rfl, hi, kb, s1, s2, hBu⟩ := hrel
    have b0 : wr.cell? ⟨w.heap.size, 0, none⟩ = some (.slice A1 n1 c1) := kb.cell 0
    by_cases hlo : i < n1
    · have t1 := s1
      obtain ⟨A, c, e, q1, q2, q3, q4⟩ := t1
      injection e with ea eb ec
      subst ea ec
      obtain ⟨g, cur, rfl, hh, hs⟩ := q4 (by omega)
      obtain ⟨u, hu⟩ : ∃ u, wr.cell? ⟨g, i, none⟩ = some u := ⟨_, by rw [cell_of_row wr g _ cur _ _ hh]; exact Array.getElem?_eq_getElem (by omega)⟩
      have hf := Blk.frozen hh i
      have hloI : (i : Int) < (n1 : Int) := by omega
      have hnc : (i : Int) < (n1 : Int) := by omega
      have kb2 := Lib.hid (kb.far (p := ⟨g, i, none⟩) (blk_ne kb hh (by decide)) (.int .u8 99))
      have s12 := Lib.hid (s1.set g i (.int .u8 99))
      have s22 := Lib.hid (s2.set g i (.int .u8 99))
      have hBu2 := Lib.hid (hBu.setCell (p := ⟨g, i, none⟩) (.inl (.inl ⟨_, _, rfl, by omega⟩)) (.int .u8 99))
      clear kb s1 s2 hBu q4 hh hs
      go_wp2_with fail
      go_roundw
      case rel => exact ⟨i + 1, by go_num, by omega, kb2.out, s12.out, s22.out, hBu2.out⟩
      case measure => simp [intOf]; omega
    · obtain rfl : n1 = i := by omega
      have hloI : ¬ (n1 : Int) < (n1 : Int) := by omega
      replace kb := Lib.hid kb
      replace s1 := Lib.hid s1
      replace s2 := Lib.hid s2
      replace hBu := Lib.hid hBu
      clear hlo hi
      go_wp2_with fail
      obtain ⟨wa, rfl⟩ : ∃ wa : World, wa = wr := ⟨_, rfl⟩
      go_loopw [3] (fun iv wr => ∃ i : Nat, iv = .int .i64 (i : Int) ∧ i ≤ n2 ∧ Blk wr w.heap.size 30 #[.slice A1 n1 c1, .slice A2 n2 c2] ∧ Sp wr (.slice A1 n1 c1) n1 ∧ Sp wr (.slice A2 n2 c2) n2 ∧ But (fun k => WrB (Value.slice A1 n1 c1) k ∨ WrB (Value.slice A2 n2 c2) k) w wr) (fun iv _ => n2 - (intOf iv).toNat)
      case atStart => exact ⟨0, rfl, Nat.zero_le _, kb.out, s1.out, s2.out, hBu.out⟩
      case round =>
        clear kb s1 s2 hBu b0
        obtain ⟨i, rfl, hi, kb, s1, s2, hBu⟩ := hrel
        have b1 : wr.cell? ⟨w.heap.size, 1, none⟩ = some (.slice A2 n2 c2) := kb.cell 1
        by_cases hlo : i < n2
        · have t1 := s2
          obtain ⟨A, c, e, q1, q2, q3, q4⟩ := t1
          injection e with ea eb ec
          subst ea ec
          obtain ⟨g, cur, rfl, hh, hs⟩ := q4 (by omega)
          obtain ⟨u, hu⟩ : ∃ u, wr.cell? ⟨g, i, none⟩ = some u := ⟨_, by rw [cell_of_row wr g _ cur _ _ hh]; exact Array.getElem?_eq_getElem (by omega)⟩
          have hf := Blk.frozen hh i
          have hloI : (i : Int) < (n2 : Int) := by omega
          have hnc : (i : Int) < (n2 : Int) := by omega
          have kb2 := Lib.hid (kb.far (p := ⟨g, i, none⟩) (blk_ne kb hh (by decide)) (.int .u8 98))
          have s12 := Lib.hid (s1.set g i (.int .u8 98))
          have s22 := Lib.hid (s2.set g i (.int .u8 98))
          have hBu2 := Lib.hid (hBu.setCell (p := ⟨g, i, none⟩) (.inl (.inr ⟨_, _, rfl, by omega⟩)) (.int .u8 98))
          clear kb s1 s2 hBu q4 hh hs
          go_wp2_with fail
          go_roundw
          case rel => exact ⟨i + 1, by go_num, by omega, kb2.out, s12.out, s22.out, hBu2.out⟩
          case measure => simp [intOf]; omega
        · obtain rfl : n2 = i := by omega
          have hloI2 : ¬ (n2 : Int) < (n2 : Int) := by omega
          have b0 : wr.cell? ⟨w.heap.size, 0, none⟩ = some (.slice A1 n1 c1) := kb.cell 0
          obtain ⟨wb, rfl⟩ : ∃ wb : World, wb = wr := ⟨_, rfl⟩
          replace kb := Lib.hid kb
          replace s1 := Lib.hid s1
          replace s2 := Lib.hid s2
          replace hBu := Lib.hid hBu
          clear hlo hi
          go_wp2_with (at_builtin; refine wpList_append_sp rfl _ _ 28 rfl i0 (.int .u8 0) Tryz.underlying28 hi0 hz0 hz1 hz2 rfl rfl (s1.out.alloc _) ⟨wb.heap.size, 0, none⟩ 2 2 [.int .u8 97, .int .u8 96] rfl rfl ?c1 ?c2 (by omega) (by decide) ?_)
          try (case c1 => exact two_new _ _ _)
          case c2 => first | exact ⟨rfl, rfl⟩ | (intro u hu; simp at hu; rcases hu with rfl | rfl <;> rfl)
          intro v' w5 Z1 y1 hv' hbu hsp hbl
          subst hv'
          have kb5 := hbl _ _ _ (by decide) (kb.out.alloc _)
          have s25 := hsp _ _ (s2.out.alloc _)
          have hB5 := (hBu.out.alloc (.cells #[.int .u8 97, .int .u8 96] 5)).trans (hbu.wide (fun k _ e => .inl e))
          have d0 : w5.cell? ⟨w.heap.size, 0, none⟩ = some (.slice A1 n1 c1) := kb5.cell 0
          have f0 := kb5.frozen 0
          have kb6 := Lib.hid (kb5.set_ 0 (.slice Z1 (n1 + 2) y1))
          have s26 := Lib.hid (s25.set w.heap.size 0 (.slice Z1 (n1 + 2) y1))
          have hB6 := Lib.hid (hB5.setCell (p := ⟨w.heap.size, 0, none⟩) (.inr (Nat.le_refl _)) (.slice Z1 (n1 + 2) y1))
          clear hbu hsp hbl kb5 s25 hB5 kb s1 s2 hBu b0 b1
          go_upto_region 10 with fail
          generalize hW : w5.setCell ⟨w.heap.size, 0, none⟩ (.slice Z1 (n1 + 2) y1) = w6 at kb6 s26 hB6 ⊢
          have b1 : w6.cell? ⟨w.heap.size, 1, none⟩ = some (.slice A2 n2 c2) := kb6.out.cell 1
          go_wp2_with (at_builtin; refine wpList_append_sp rfl _ _ 28 rfl i0 (.int .u8 0) Tryz.underlying28 hi0 hz0 hz1 hz2 rfl rfl (s26.out.alloc _) ⟨w6.heap.size, 0, none⟩ 2 2 [.int .u8 95, .int .u8 94] rfl rfl ?hole1 ?hole2 (by omega) (by decide) ?_)
          try (case hole1 => exact two_new _ _ _)
          case hole2 => first | exact ⟨rfl, rfl⟩ | (intro u hu; simp at hu; rcases hu with rfl | rfl <;> rfl)
          intro v' w7 Z2 y2 hv' hbu hsp hbl
          subst hv'
          have kb7 := hbl _ _ _ (by decide) (kb6.out.alloc _)
          have hB7 := (hB6.out.alloc (.cells #[.int .u8 95, .int .u8 94] 5)).trans (hbu.wide (fun k _ e => .inr e))
          have d1 : w7.cell? ⟨w.heap.size, 1, none⟩ = some (.slice A2 n2 c2) := kb7.cell 1
          have f1 := kb7.frozen 1
          have hB8 := Lib.hid (hB7.setCell (p := ⟨w.heap.size, 1, none⟩) (.inr (Nat.le_refl _)) (.slice Z2 (n2 + 2) y2))
          clear hbu hsp hbl kb7 hB7 kb6 s26 hB6 b1
          go_wp2_with fail
          go_end0
          exact ⟨rfl, hB8.out⟩
end Go.Proofs.YtbddlbhanpjdnaaGreatDoor
