/- Package filigreeref22: Read. · filigreelaw22.ItinTexts: the walk. -/
import Derived.Test.YtbddlbhanpjdnaaGreatDoorTxR
import Derived.Test.YtbddlbhanpjdnaaGreatDoorSame
import Derived.Test.YtbddlbhanpjdnaaGreatDoorItS
namespace Go.Proofs.YtbddlbhanpjdnaaGreatDoor
open Go.RowKit Go.Sort

/-- The document's reader, a letter at a time. -/
structure RfSt where
  P : List Nat
  Q : List Nat
  wi : Bool
  wd : List Nat
def rf1 (t : RfSt) (c : Nat) : Option RfSt :=
  if c = 40 then some ⟨t.P, t.Q, true, t.wd⟩
  else if c = 32 ∨ c = 41 then (if symW t.wd < 0 then none else if t.wi then some ⟨t.P, t.Q ++ [(symW t.wd).toNat], t.wi, []⟩ else some ⟨t.P ++ [(symW t.wd).toNat], t.Q, t.wi, []⟩)
  else some ⟨t.P, t.Q, t.wi, t.wd ++ [c]⟩
def rfF : RfSt → List Nat → Option RfSt
  | t, [] => some t
  | t, c :: l => match rf1 t c with
    | none => none
    | some u => rfF u l
def rf0 : RfSt := ⟨[], [], false, []⟩
theorem rfF_append (l m : List Nat) : ∀ t, rfF t (l ++ m) = (rfF t l).bind fun u => rfF u m := by
  induction l with
  | nil => intro t; rfl
  | cons c l ih =>
    intro t
    simp only [List.cons_append, rfF]
    cases rf1 t c with
    | none => rfl
    | some u => exact ih u
theorem rfF_snoc {t u : RfSt} {l : List Nat} {c : Nat} (h : rfF t l = some u) : rfF t (l ++ [c]) = rf1 u c := by
  rw [rfF_append, h]
  simp only [Option.bind, rfF]
  cases rf1 u c <;> rfl
theorem rfF_none {t : RfSt} {l m : List Nat} (h : rfF t l = none) : rfF t (l ++ m) = none := by rw [rfF_append, h]; rfl
theorem rf_plain : ∀ (l : List Nat) (P Q : List Nat) (wi : Bool) (wd : List Nat), (∀ c, c ∈ l → 42 ≤ c) → rfF ⟨P, Q, wi, wd⟩ l = some ⟨P, Q, wi, wd ++ l⟩
  | [], P, Q, wi, wd, _ => by rw [List.append_nil]; rfl
  | c :: l, P, Q, wi, wd, h => by
    have hc := h c (List.mem_cons_self)
    have e : rf1 ⟨P, Q, wi, wd⟩ c = some ⟨P, Q, wi, wd ++ [c]⟩ := by
      unfold rf1
      rw [if_neg (by omega), if_neg (by omega)]
    rw [rfF, e]
    simp only
    rw [rf_plain l P Q wi (wd ++ [c]) (fun x hx => h x (List.mem_cons_of_mem _ hx)), List.append_assoc]
    rfl
theorem wordL_42 (x : Nat) : ∀ c, c ∈ wordL x → 42 ≤ c := by
  intro c hc
  unfold wordL at hc
  split at hc
  · simp at hc; omega
  · split at hc
    · simp at hc; omega
    · simp at hc; omega
theorem rf_word {P Q : List Nat} {wi : Bool} {x c : Nat} (h : symB x = true) (hc : c = 32 ∨ c = 41) : rfF ⟨P, Q, wi, []⟩ (wordL x ++ [c]) = some (if wi then ⟨P, Q ++ [x], wi, []⟩ else ⟨P ++ [x], Q, wi, []⟩) := by
  have e := rf_plain (wordL x) P Q wi [] (wordL_42 x)
  rw [rfF_snoc e, List.nil_append]
  unfold rf1
  rw [if_neg (by omega), if_pos hc, symW_word h, if_neg (by omega), Int.toNat_natCast]
  cases wi <;> rfl
theorem rf_pre (Q : List Nat) : ∀ (l P : List Nat), (∀ x, x ∈ l → symB x = true) → rfF ⟨P, Q, false, []⟩ (preW l) = some ⟨P ++ l, Q, false, []⟩
  | [], P, _ => by rw [List.append_nil]; rfl
  | x :: l, P, h => by
    have e : preW (x :: l) = (wordL x ++ [32]) ++ preW l := by simp [preW]
    rw [e, rfF_append, rf_word (h x (List.mem_cons_self)) (.inl rfl)]
    simp only [Option.bind]
    have := rf_pre Q l (P ++ [x]) (fun y hy => h y (List.mem_cons_of_mem _ hy))
    rw [List.append_assoc] at this
    exact this
theorem rf_more (P : List Nat) : ∀ (l Q : List Nat) (x : Nat), symB x = true → (∀ y, y ∈ l → symB y = true) → rfF ⟨P, Q, true, []⟩ (wordL x ++ (l.flatMap fun y => 32 :: wordL y) ++ [41]) = some ⟨P, Q ++ x :: l, true, []⟩
  | [], Q, x, hx, _ => by
    have := rf_word (P := P) (Q := Q) (wi := true) hx (.inr rfl)
    simpa using this
  | y :: l, Q, x, hx, h => by
    have e : wordL x ++ ((y :: l).flatMap fun y => 32 :: wordL y) ++ [41] = (wordL x ++ [32]) ++ (wordL y ++ (l.flatMap fun y => 32 :: wordL y) ++ [41]) := by simp
    rw [e, rfF_append, rf_word hx (.inl rfl)]
    simp only [Option.bind]
    have := rf_more P l (Q ++ [x]) y (h y (List.mem_cons_self)) (fun z hz => h z (List.mem_cons_of_mem _ hz))
    simpa [List.append_assoc] using this
theorem rf_text {P Q : List Nat} (h : mayI P Q = true) : rfF rf0 (textL P Q) = some ⟨P, Q, true, []⟩ := by
  obtain ⟨m1, m2, m3, m4⟩ := mayI_spec h
  cases Q with
  | nil => simp at m1
  | cons x l =>
    have e : textL P (x :: l) = preW P ++ ([40] ++ (wordL x ++ (l.flatMap fun y => 32 :: wordL y) ++ [41])) := by simp [textL, perW]
    rw [e, rfF_append, show rf0 = ⟨[], [], false, []⟩ from rfl, rf_pre [] P [] m3]
    simp only [Option.bind, List.nil_append]
    rw [show [40] ++ (wordL x ++ (l.flatMap fun y => 32 :: wordL y) ++ [41]) = 40 :: (wordL x ++ (l.flatMap fun y => 32 :: wordL y) ++ [41]) from rfl, rfF]
    have e2 : rf1 ⟨P, [], false, []⟩ 40 = some ⟨P, [], true, []⟩ := rfl
    rw [e2]
    simp only
    exact rf_more P l [] x (m4 x (List.mem_cons_self)) (fun y hy => m4 y (List.mem_cons_of_mem _ hy))
/-- A letter that stops it: the text is none. -/
theorem rf_fail {s : List Nat} {i c : Nat} {t : RfSt} (hl : s.length ≤ 16384) (h : rfF rf0 (s.take i) = some t) (hc : s[i]? = some c) (h1 : rf1 t c = none) : RdOut s [] [] 220 := by
  refine .inr ⟨hl, .inr ⟨rfl, rfl, rfl, fun P' Q' hm e => ?_⟩⟩
  have h2 := rf_text hm
  have hi := lt_of_getElem? hc
  have e3 : s = s.take (i + 1) ++ s.drop (i + 1) := (List.take_append_drop _ _).symm
  rw [e, e3, take_next hc] at h2
  rw [rfF_none (by rw [rfF_snoc h, h1])] at h2
  cases h2
theorem rf_done {s : List Nat} {t : RfSt} (hl : s.length ≤ 16384) (h : rfF rf0 s = some t) : (mayI t.P t.Q = true ∧ textL t.P t.Q = s → RdOut s t.P t.Q 0) ∧ (¬ (mayI t.P t.Q = true ∧ textL t.P t.Q = s) → RdOut s [] [] 220) := by
  refine ⟨fun ⟨h1, h2⟩ => .inr ⟨hl, .inl ⟨h1, h2, rfl⟩⟩, fun hn => .inr ⟨hl, .inr ⟨rfl, rfl, rfl, fun P' Q' hm e => ?_⟩⟩⟩
  have h2 := rf_text hm
  rw [e, h] at h2
  have h3 := Option.some.inj h2
  rw [h3] at hn
  exact hn ⟨hm, e⟩

/-- The memory of the reader. -/
def RfW (w : World) (N : Nat) (P Q : List Nat) (v1 v2 : Value) : Prop :=
  Blk w N 30 #[.slice none 0 0, .slice none 0 0] ∧ Blk w (N + 1) 30 #[v1, v2] ∧ w.ownsRow (N + 2) 5 1 v1 P.length (ivs .u8 P) ∧ w.ownsRow (N + 2) 5 1 v2 Q.length (ivs .u8 Q) ∧ (∀ g, v1.ownBlock = some g → v2.ownBlock ≠ some g) ∧ N + 2 ≤ w.heap.size
theorem RfW.push1 {w w1 : World} {N n : Nat} {P Q : List Nat} {v1 v2 v' : Value} {o : Obj} (h : RfW w N P Q v1 v2) (hown : w1.ownsRow (N + 2) 5 1 v' (P.length + 1) (ivs .u8 P ++ [.int .u8 (n : Int)])) (hgrow : (w.alloc o).grownBy w1 v1.ownBlock)
    (hat : v'.ownBlock = v1.ownBlock ∨ v'.ownBlock = some (w.heap.size + 1)) : Blk w1 (N + 1) 30 #[v1, v2] ∧ RfW (w1.setCell ⟨N + 1, 0, none⟩ v') N (P ++ [n]) Q v' v2 ∧ Below N w (w1.setCell ⟨N + 1, 0, none⟩ v') := by
  obtain ⟨h0, h1, h2, h3, h4, h5⟩ := h
  have hlo : ∀ g, v1.ownBlock = some g → N + 2 ≤ g := fun g hg => (h2.lt g hg).1
  have hne : ∀ g, g < N + 2 → some g ≠ v1.ownBlock := fun g hg e => by have := hlo g e.symm; omega
  have g0 := Blk.grown (h0.alloc o) hgrow (hne _ (by omega))
  have g1 := Blk.grown (h1.alloc o) hgrow (hne _ (by omega))
  have gO : w1.ownsRow (N + 2) 5 1 v2 Q.length (ivs .u8 Q) := (h3.alloc o).kept hgrow (by
    rcases ho : v2.ownBlock with _ | g
    · exact .inl rfl
    · exact .inr (fun e => h4 g e.symm ho))
  have gN : w1.ownsRow (N + 2) 5 1 v' (P ++ [n]).length (ivs .u8 (P ++ [n])) := by rw [List.length_append, ivs_append]; exact hown
  have hsep : ∀ g, v'.ownBlock = some g → v2.ownBlock ≠ some g := fun g hg e => by
    rcases hat with h | h
    · exact h4 g (by rw [← h]; exact hg) e
    · rw [hg] at h
      have := (h3.lt g e).2
      injection h with h
      omega
  have hB1 : Below N w w1 := ((Below.refl N w).alloc (by omega) o).grown hgrow (by simp; omega) (fun k hk => by have := hlo k hk; omega)
  have hs := hgrow.size
  exact ⟨g1, ⟨g0.far (p := ⟨N + 1, 0, none⟩) (by simp) _, Blk.set_ g1 0 v', ownsRow_setCell_below gN (by simp) _, ownsRow_setCell_below gO (by simp) _, hsep, by simp at hs ⊢; omega⟩, hB1.setCell (p := ⟨N + 1, 0, none⟩) (by simp) _⟩
theorem RfW.push2 {w w1 : World} {N n : Nat} {P Q : List Nat} {v1 v2 v' : Value} {o : Obj} (h : RfW w N P Q v1 v2) (hown : w1.ownsRow (N + 2) 5 1 v' (Q.length + 1) (ivs .u8 Q ++ [.int .u8 (n : Int)])) (hgrow : (w.alloc o).grownBy w1 v2.ownBlock)
    (hat : v'.ownBlock = v2.ownBlock ∨ v'.ownBlock = some (w.heap.size + 1)) : Blk w1 (N + 1) 30 #[v1, v2] ∧ RfW (w1.setCell ⟨N + 1, 1, none⟩ v') N P (Q ++ [n]) v1 v' ∧ Below N w (w1.setCell ⟨N + 1, 1, none⟩ v') := by
  obtain ⟨h0, h1, h2, h3, h4, h5⟩ := h
  have hlo : ∀ g, v2.ownBlock = some g → N + 2 ≤ g := fun g hg => (h3.lt g hg).1
  have hne : ∀ g, g < N + 2 → some g ≠ v2.ownBlock := fun g hg e => by have := hlo g e.symm; omega
  have g0 := Blk.grown (h0.alloc o) hgrow (hne _ (by omega))
  have g1 := Blk.grown (h1.alloc o) hgrow (hne _ (by omega))
  have gO : w1.ownsRow (N + 2) 5 1 v1 P.length (ivs .u8 P) := (h2.alloc o).kept hgrow (by
    rcases ho : v1.ownBlock with _ | g
    · exact .inl rfl
    · exact .inr (fun e => h4 g ho e.symm))
  have gN : w1.ownsRow (N + 2) 5 1 v' (Q ++ [n]).length (ivs .u8 (Q ++ [n])) := by rw [List.length_append, ivs_append]; exact hown
  have hsep : ∀ g, v1.ownBlock = some g → v'.ownBlock ≠ some g := fun g hg e => by
    rcases hat with h | h
    · exact h4 g hg (by rw [← h]; exact e)
    · rw [e] at h
      have := (h2.lt g hg).2
      injection h with h
      omega
  have hB1 : Below N w w1 := ((Below.refl N w).alloc (by omega) o).grown hgrow (by simp; omega) (fun k hk => by have := hlo k hk; omega)
  have hs := hgrow.size
  exact ⟨g1, ⟨g0.far (p := ⟨N + 1, 1, none⟩) (by simp) _, Blk.set_ g1 1 v', ownsRow_setCell_below gO (by simp) _, ownsRow_setCell_below gN (by simp) _, hsep, by simp at hs ⊢; omega⟩, hB1.setCell (p := ⟨N + 1, 1, none⟩) (by simp) _⟩

theorem own_forms' {w : World} {base : Nat} {T : TypeId} {size : Nat} {v : Value} {n : Nat} {xs : List Value} (h : w.ownsRow base T size v n xs) : ∃ A c, v = .slice A n c := by
  rcases own_forms h with ⟨e, e2⟩ | ⟨g, c, e⟩
  · exact ⟨none, 0, by rw [e, e2]⟩
  · exact ⟨_, _, e⟩
theorem extract_one {s : ByteArray} {i c : Nat} (h : (sl s)[i]? = some c) : s.extract i (i + 1) = mkS [c] := by
  have hi : i < s.size := by rw [← sl_len]; exact lt_of_getElem? h
  have h2 := sl_get s i hi
  rw [h] at h2
  have hc := Option.some.inj h2
  apply ByteArray.ext
  apply Array.ext'
  rw [mkS_data]
  have e : (s.extract i (i + 1)).data.toList = (s.data.toList.drop i).take 1 := by
    simp [ByteArray.data_extract]
  rw [e, List.drop_eq_getElem_cons (by simpa using hi), List.take_succ_cons, List.take_zero, hc]
  simp
  rfl

/-- How far it has come. -/
def RfOk (s : List Nat) (i : Nat) (t : RfSt) : Prop :=
  rfF rf0 (s.take i) = some t ∧ t.P.length ≤ i ∧ t.Q.length ≤ i ∧ t.wd.length ≤ i ∧ (∀ x, x ∈ t.P → x < 256) ∧ (∀ x, x ∈ t.Q → x < 256) ∧ (∀ x, x ∈ t.wd → x < 256)
theorem rfOk_zero (s : List Nat) : RfOk s 0 rf0 := ⟨rfl, Nat.le_refl _, Nat.le_refl _, Nat.le_refl _, fun x hx => (by cases hx), fun x hx => (by cases hx), fun x hx => (by cases hx)⟩
theorem RfOk.step {s : List Nat} {i c : Nat} {t u : RfSt} (h : RfOk s i t) (hc : s[i]? = some c) (hc9 : c < 256) (h1 : rf1 t c = some u) : RfOk s (i + 1) u := by
  obtain ⟨a1, a2, a3, a4, a5, a6, a7⟩ := h
  refine ⟨by rw [take_next hc, rfF_snoc a1, h1], ?_⟩
  have hb := symW_bound t.wd
  unfold rf1 at h1
  split at h1
  · injection h1 with h1
    subst h1
    exact ⟨by simp only; omega, by simp only; omega, by simp only; omega, a5, a6, a7⟩
  · split at h1
    · split at h1
      · cases h1
      · rename_i hn
        have h9 : (symW t.wd).toNat < 256 := by omega
        split at h1
        · injection h1 with h1
          subst h1
          refine ⟨by simp only; omega, by simp only [List.length_append, List.length_cons, List.length_nil]; omega, by simp, a5, fun x hx => ?_, fun x hx => by cases hx⟩
          rcases List.mem_append.1 hx with h | h
          · exact a6 x h
          · rw [List.mem_singleton.1 h]; exact h9
        · injection h1 with h1
          subst h1
          refine ⟨by simp only [List.length_append, List.length_cons, List.length_nil]; omega, by simp only; omega, by simp, fun x hx => ?_, a6, fun x hx => by cases hx⟩
          rcases List.mem_append.1 hx with h | h
          · exact a5 x h
          · rw [List.mem_singleton.1 h]; exact h9
    · injection h1 with h1
      subst h1
      refine ⟨by simp only; omega, by simp only; omega, by simp only [List.length_append, List.length_cons, List.length_nil]; omega, a5, a6, fun x hx => ?_⟩
      rcases List.mem_append.1 hx with h | h
      · exact a7 x h
      · rw [List.mem_singleton.1 h]; exact hc9
theorem neq_str {a b : ByteArray} (h : a ≠ b) : (a.toList == b.toList) = false := by
  rw [beq_eq_false_iff_ne]
  exact fun e => h (toList_inj e)

theorem RfW.below {w w' : World} {N : Nat} {P Q : List Nat} {v1 v2 : Value} (h : RfW w N P Q v1 v2) (hb : Below w.heap.size w w') : RfW w' N P Q v1 v2 :=
  ⟨Blk.below h.1 hb, Blk.below h.2.1 hb, own_below h.2.2.1 hb, own_below h.2.2.2.1 hb, h.2.2.2.2.1, Nat.le_trans h.2.2.2.2.2 hb.size⟩

set_option maxRecDepth 100000 in
set_option maxHeartbeats 4000000 in
/-- filigreeref22.Read -/
theorem rRead_any (s : ByteArray) (w : World) (hs : s.size ≤ 140737488355328) : Calls Tryz.prog 29 #[.string s] w (RetRead (sl s) w) := by
  obtain ⟨i0, hi0, hz0, hz1, hz2⟩ := info_parts info_u8
  have hlen := sl_len s
  have hBW : Below w.heap.size w (w.alloc (.cells #[.slice none 0 0, .slice none 0 0] 30)) := (Below.refl _ w).alloc (Nat.le_refl _) _
  by_cases h0 : 16384 < s.size
  · have h0I : (16384 : Int) < (s.size : Int) := by omega
    have hout : RdOut (sl s) [] [] 4 := .inl ⟨by rw [hlen]; exact h0, rfl, rfl, rfl⟩
    have hfin : ∀ W, Below w.heap.size w W → RetRead (sl s) w (.returned (.tuple #[.agg #[.slice none 0 0, .slice none 0 0], .int .i64 4])) W := fun W hb => retRead_err hout hb
    have k0 := Blk.new w 30 #[.slice none 0 0, .slice none 0 0]
    have K2 := Lib.hid (Blk.set_ (Blk.set_ k0 0 (.slice none 0 0)) 1 (.slice none 0 0))
    have hB2 := Lib.hid ((hBW.setCell (p := ⟨w.heap.size, 0, none⟩) (by simp) (.slice none 0 0)).setCell (p := ⟨w.heap.size, 1, none⟩) (by simp) (.slice none 0 0))
    replace hfin := Lib.hid hfin
    replace hBW := Lib.hid hBW
    replace k0 := Lib.hid k0
    clear hout hlen
    go_enter Tryz.func29, Tryz.ntmps29
    go_wp2_with fail
    have q0 := k0.out.cell 0
    have q1 := k0.out.cell 1
    refine bodyPost_ret (v := .tuple #[.agg #[.slice none 0 0, .slice none 0 0], .int .i64 4]) (by simp [results, Tryz.results29, go_sem, q0, q1]) rfl ?_
    exact hfin.out _ hBW.out
  · have h0I : ¬ (16384 : Int) < (s.size : Int) := by omega
    have hl16 : Hid ((sl s).length ≤ 16384) := Lib.hid (by rw [hlen]; omega)
    have k0 := (Blk.new w 30 #[.slice none 0 0, .slice none 0 0]).alloc (.cells #[.slice none 0 0, .slice none 0 0] 30)
    have k1 := Blk.new (w.alloc (.cells #[.slice none 0 0, .slice none 0 0] 30)) 30 #[.slice none 0 0, .slice none 0 0]
    rw [show (w.alloc (.cells #[.slice none 0 0, .slice none 0 0] 30)).heap.size = w.heap.size + 1 by simp] at k1
    have hB2 := hBW.alloc (by simp) (.cells #[.slice none 0 0, .slice none 0 0] 30)
    have kR : RfW ((w.alloc (.cells #[.slice none 0 0, .slice none 0 0] 30)).alloc (.cells #[.slice none 0 0, .slice none 0 0] 30)) w.heap.size [] [] (.slice none 0 0) (.slice none 0 0) :=
      ⟨k0, k1, World.ownsRow_nil _ _ _ _, World.ownsRow_nil _ _ _ _, fun g hg => by simp [Value.ownBlock] at hg, by simp⟩
    replace hlen := Lib.hid hlen
    clear k0 k1 hBW
    go_enter Tryz.func29, Tryz.ntmps29
    go_upto_region 4 with fail
    generalize hW : (w.alloc (.cells #[.slice none 0 0, .slice none 0 0] 30)).alloc (.cells #[.slice none 0 0, .slice none 0 0] 30) = w2 at kR hB2 ⊢
    clear hW
    go_wp2_with fail
    go_loopw [5, 6, 7, 8, 9, 30, 33] (fun a5 a6 a7 _ _ _ _ wr => ∃ (i : Nat) (P Q wd : List Nat) (wi : Bool) (v1 v2 : Value), a5 = .string (mkS wd) ∧ a6 = .bool wi ∧ a7 = .int .i64 (i : Int) ∧ i ≤ s.size ∧ RfOk (sl s) i ⟨P, Q, wi, wd⟩ ∧ RfW wr w.heap.size P Q v1 v2 ∧ Below w.heap.size w wr) (fun _ _ iv _ _ _ _ _ => s.size - (intOf iv).toNat)
    case atStart => exact ⟨0, [], [], [], false, _, _, rfl, rfl, rfl, Nat.zero_le _, rfOk_zero _, kR, hB2⟩
    case round =>
      clear kR hB2
      obtain ⟨i, P, Q, wd, wi, v1, v2, rfl, rfl, rfl, hi, hok, hR, hB⟩ := hrel
      replace hok := Lib.hid hok
      replace hR := Lib.hid hR
      replace hB := Lib.hid hB
      by_cases hlo : i < s.size
      · have hloI : (i : Int) < (s.size : Int) := by omega
        have hx := sl_get s i hlo
        obtain ⟨c, hc⟩ : ∃ c, c = (s[i]'hlo).toNat := ⟨_, rfl⟩
        have hc9 : c < 256 := by rw [hc]; exact (s[i]'hlo).toNat_lt
        have hcx : (((s[i]'hlo).toNat : Nat) : Int) = (c : Int) := by rw [hc]
        rw [← hc] at hx
        replace hc := Lib.hid hc
        replace hx := Lib.hid hx
        by_cases c40 : c = 40
        · subst c40
          have hnx := Lib.hid (hok.out.step hx.out (by omega) (u := ⟨P, Q, true, wd⟩) rfl)
          clear hok
          go_wp2_with fail
          go_roundw
          case rel => exact ⟨i + 1, P, Q, wd, true, v1, v2, rfl, rfl, by go_num, by omega, hnx.out, hR.out, hB.out⟩
          case measure => simp [intOf]; omega
        · have c40I : ((c : Int) == 40) = false := by rw [beq_eq_false_iff_ne]; omega
          by_cases c32 : c = 32 ∨ c = 41
          · have hsl : sl (mkS wd) = wd := sl_mk wd hok.out.2.2.2.2.2.2
            have hwl : (mkS wd).size ≤ 1000000 := by rw [mkS_size]; have := hok.out.2.2.2.1; simp only at this; omega
            have hsy := fun W => rsymbol_any (mkS wd) W hwl
            rw [hsl] at hsy
            obtain ⟨x, hxx⟩ : ∃ x, x = symW wd := ⟨_, rfl⟩
            rw [← hxx] at hsy
            have hbd := symW_bound wd
            rw [← hxx] at hbd
            have hr1 : rf1 ⟨P, Q, wi, wd⟩ c = if x < 0 then none else if wi then some ⟨P, Q ++ [x.toNat], wi, []⟩ else some ⟨P ++ [x.toNat], Q, wi, []⟩ := by
              unfold rf1
              rw [if_neg c40, if_pos c32, hxx]
            replace hr1 := Lib.hid hr1
            replace hsy := Lib.hid hsy
            replace hxx := Lib.hid hxx
            clear hsl hwl
            have hcc : ((c : Int) == 32) = true ∨ (((c : Int) == 32) = false ∧ ((c : Int) == 41) = true) := by
              rcases c32 with rfl | rfl
              · exact .inl rfl
              · exact .inr ⟨rfl, rfl⟩
            by_cases hneg : x < 0
            · have hout := rf_fail hl16.out hok.out.1 hx.out (by rw [hr1.out, if_pos hneg])
              have hBz := (hB.out.setCell (p := ⟨w.heap.size, 0, none⟩) (by simp) (.slice none 0 0)).setCell (p := ⟨w.heap.size, 1, none⟩) (by simp) (.slice none 0 0)
              have KZ := Lib.hid (Blk.set_ (Blk.set_ hR.out.1 0 (.slice none 0 0)) 1 (.slice none 0 0))
              have hfin := Lib.hid (retRead_err hout hBz)
              have d0 : wr.cell? ⟨w.heap.size, 0, none⟩ = some (.slice none 0 0) := hR.out.1.cell 0
              have d1 : wr.cell? ⟨w.heap.size, 1, none⟩ = some (.slice none 0 0) := hR.out.1.cell 1
              have f0 := hR.out.1.frozen 0
              have f1 := hR.out.1.frozen 1
              clear hout hBz c32 c40
              rcases hcc with e1 | ⟨e1, e2⟩
              all_goals
                go_wp2_with fail
                refine (hsy.out _).mono ?_
                rintro en w3 ⟨rfl, rfl⟩
                go_wp2_with fail
                have q0 := KZ.out.cell 0
                have q1 := KZ.out.cell 1
                refine bodyPost_ret (v := .tuple #[.agg #[.slice none 0 0, .slice none 0 0], .int .i64 220]) (by simp [results, Tryz.results29, go_sem, q0, q1]) rfl ?_
                exact hfin.out
            · obtain ⟨n, rfl⟩ : ∃ n : Nat, x = (n : Int) := ⟨x.toNat, by omega⟩
              have hn9 : n < 256 := by omega
              have hn0 : ¬ (n : Int) < 0 := by omega
              have hnw : IntKind.u8.wrap (n : Int) = (n : Int) := by rw [IntKind.wrap_u8]; omega
              have hr2 := hr1.out
              rw [if_neg hn0, Int.toNat_natCast] at hr2
              clear hr1 hneg hbd
              have hPl : P.length ≤ i := hok.out.2.1
              have hQl : Q.length ≤ i := hok.out.2.2.1
              obtain ⟨A1, d1, rfl⟩ := own_forms' hR.out.2.2.1
              obtain ⟨A2, d2, rfl⟩ := own_forms' hR.out.2.2.2.1
              cases wi
              · have hnx := Lib.hid (hok.out.step hx.out hc9 (u := ⟨P ++ [n], Q, false, []⟩) (by rw [hr2]; rfl))
                have x0 : wr.cell? ⟨w.heap.size + 1, 0, none⟩ = some (.slice A1 P.length d1) := hR.out.2.1.cell 0
                clear hr2 hok c32 c40
                rcases hcc with e1 | ⟨e1, e2⟩
                all_goals
                  go_wp2_with fail
                  refine (hsy.out _).mono ?_
                  rintro en w3 ⟨rfl, rfl⟩
                  go_wp2_with (at_builtin; refine wpList_append_own_at _ rfl _ _ 28 rfl (w.heap.size + 2) 5 i0 (.int .u8 0) 1 1 Tryz.underlying28 hi0 hz0 hz1 hz2 rfl (by decide) _ _ _ rfl (hR.out.2.2.1.alloc _) ⟨w3.heap.size, 0, none⟩ 1 1 [.int .u8 (n : Int)] rfl rfl ?d1 ?d2 ?d3 ?d4 ?d5 ?_)
                  case d1 => exact cell_one_new _ _ _
                  case d2 => intro u hu; simp at hu; rw [hu]; rfl
                  case d3 => unfold maxLen; omega
                  case d4 => omega
                  case d5 => have := hR.out.2.2.2.2.2; simp; omega
                  intro v' w1 hown' hgrow _ hat
                  obtain ⟨r1, r2, r3⟩ := hR.out.push1 hown' hgrow hat
                  obtain ⟨A9, d9, rfl⟩ := own_forms' hown'
                  have y0 : w1.cell? ⟨w.heap.size + 1, 0, none⟩ = some (.slice A1 P.length d1) := r1.cell 0
                  have y1 := r1.frozen 0
                  have hB3 := Lib.hid (hB.out.trans (r3.mono (Nat.le_refl _)))
                  replace r1 := Lib.hid r1
                  replace r2 := Lib.hid r2
                  clear r3 hown' hgrow hat
                  go_wp2_with fail
                  go_roundw
                  case rel => exact ⟨i + 1, P ++ [n], Q, [], false, _, _, rfl, rfl, by go_num, by omega, hnx.out, r2.out, hB3.out⟩
                  case measure => simp [intOf]; omega
              · have hnx := Lib.hid (hok.out.step hx.out hc9 (u := ⟨P, Q ++ [n], true, []⟩) (by rw [hr2]; rfl))
                have x0 : wr.cell? ⟨w.heap.size + 1, 1, none⟩ = some (.slice A2 Q.length d2) := hR.out.2.1.cell 1
                clear hr2 hok c32 c40
                rcases hcc with e1 | ⟨e1, e2⟩
                all_goals
                  go_wp2_with fail
                  refine (hsy.out _).mono ?_
                  rintro en w3 ⟨rfl, rfl⟩
                  go_wp2_with (at_builtin; refine wpList_append_own_at _ rfl _ _ 28 rfl (w.heap.size + 2) 5 i0 (.int .u8 0) 1 1 Tryz.underlying28 hi0 hz0 hz1 hz2 rfl (by decide) _ _ _ rfl (hR.out.2.2.2.1.alloc _) ⟨w3.heap.size, 0, none⟩ 1 1 [.int .u8 (n : Int)] rfl rfl ?d1 ?d2 ?d3 ?d4 ?d5 ?_)
                  case d1 => exact cell_one_new _ _ _
                  case d2 => intro u hu; simp at hu; rw [hu]; rfl
                  case d3 => unfold maxLen; omega
                  case d4 => omega
                  case d5 => have := hR.out.2.2.2.2.2; simp; omega
                  intro v' w1 hown' hgrow _ hat
                  obtain ⟨r1, r2, r3⟩ := hR.out.push2 hown' hgrow hat
                  obtain ⟨A9, d9, rfl⟩ := own_forms' hown'
                  have y0 : w1.cell? ⟨w.heap.size + 1, 1, none⟩ = some (.slice A2 Q.length d2) := r1.cell 1
                  have y1 := r1.frozen 1
                  have hB3 := Lib.hid (hB.out.trans (r3.mono (Nat.le_refl _)))
                  replace r1 := Lib.hid r1
                  replace r2 := Lib.hid r2
                  clear r3 hown' hgrow hat
                  go_wp2_with fail
                  go_roundw
                  case rel => exact ⟨i + 1, P, Q ++ [n], [], true, _, _, rfl, rfl, by go_num, by omega, hnx.out, r2.out, hB3.out⟩
                  case measure => simp [intOf]; omega
          · have c32I : ((c : Int) == 32) = false := by rw [beq_eq_false_iff_ne]; omega
            have c41I : ((c : Int) == 41) = false := by rw [beq_eq_false_iff_ne]; omega
            have hnx := Lib.hid (hok.out.step hx.out hc9 (u := ⟨P, Q, wi, wd ++ [c]⟩) (by unfold rf1; rw [if_neg c40, if_neg c32]))
            have hwl : wd.length ≤ i := hok.out.2.2.2.1
            have hex : s.extract i (i + 1) = mkS [c] := extract_one hx.out
            have hadd := fun W => run_add_mkS wd [c] (by simp only [List.length_cons, List.length_nil]; omega) W
            clear c32 hok
            go_wp2_with fail
            go_roundw
            case rel => exact ⟨i + 1, P, Q, wd ++ [c], wi, v1, v2, rfl, rfl, by go_num, by omega, hnx.out, hR.out, hB.out⟩
            case measure => simp [intOf]; omega
      · obtain rfl : i = s.size := by omega
        have hloI : ¬ ((s.size : Nat) : Int) < (s.size : Int) := by omega
        have hF : rfF rf0 (sl s) = some ⟨P, Q, wi, wd⟩ := by
          have := hok.out.1
          rw [← hlen.out, List.take_length] at this
          exact this
        obtain ⟨hd1, hd2⟩ := rf_done hl16.out hF
        obtain ⟨A1, d1, rfl⟩ := own_forms' hR.out.2.2.1
        obtain ⟨A2, d2, rfl⟩ := own_forms' hR.out.2.2.2.1
        have hPl : P.length ≤ s.size := hok.out.2.1
        have hQl : Q.length ≤ s.size := hok.out.2.2.1
        have hI : ∀ W, RfW W w.heap.size P Q (.slice A1 P.length d1) (.slice A2 Q.length d2) → Itn W (.slice A1 P.length d1) (.slice A2 Q.length d2) P Q := fun W h =>
          ⟨⟨_, _, _, _, rfl, own_rdn h.2.2.1⟩, ⟨_, _, _, _, rfl, own_rdn h.2.2.2.1⟩, hok.out.2.2.2.2.1, hok.out.2.2.2.2.2.1, by omega, by omega⟩
        have z0 : wr.cell? ⟨w.heap.size + 1, 0, none⟩ = some (.slice A1 P.length d1) := hR.out.2.1.cell 0
        have z1 : wr.cell? ⟨w.heap.size + 1, 1, none⟩ = some (.slice A2 Q.length d2) := hR.out.2.1.cell 1
        replace hI := Lib.hid hI
        replace hd1 := Lib.hid hd1
        replace hd2 := Lib.hid hd2
        clear hF hok
        go_wp2_with fail
        refine (ritmay_any _ _ P Q _ (hI.out _ hR.out)).mono ?_
        rintro en w3 ⟨rfl, hb⟩
        replace hR := Lib.hid (hR.out.below hb)
        replace hB := Lib.hid (hB.out.trans (hb.mono hB.out.size))
        clear hb z0 z1
        have errp : ¬ (mayI P Q = true ∧ textL P Q = sl s) → ∀ W, RfW W w.heap.size P Q (.slice A1 P.length d1) (.slice A2 Q.length d2) → Below w.heap.size w W →
            RetRead (sl s) w (.returned (.tuple #[.agg #[.slice none 0 0, .slice none 0 0], .int .i64 220])) ((W.setCell ⟨w.heap.size, 0, none⟩ (.slice none 0 0)).setCell ⟨w.heap.size, 1, none⟩ (.slice none 0 0)) ∧ Blk ((W.setCell ⟨w.heap.size, 0, none⟩ (.slice none 0 0)).setCell ⟨w.heap.size, 1, none⟩ (.slice none 0 0)) w.heap.size 30 #[.slice none 0 0, .slice none 0 0] := fun hn W h hb =>
          ⟨retRead_err (hd2.out hn) ((hb.setCell (p := ⟨w.heap.size, 0, none⟩) (by simp) _).setCell (p := ⟨w.heap.size, 1, none⟩) (by simp) _), Blk.set_ (Blk.set_ h.1 0 (.slice none 0 0)) 1 (.slice none 0 0)⟩
        replace errp := Lib.hid errp
        cases hm : mayI P Q
        · have hh := Lib.hid (errp.out (fun h => by rw [hm] at h; cases h.1) _ hR.out hB.out)
          have d0 : w3.cell? ⟨w.heap.size, 0, none⟩ = some (.slice none 0 0) := hR.out.1.cell 0
          have d1 : w3.cell? ⟨w.heap.size, 1, none⟩ = some (.slice none 0 0) := hR.out.1.cell 1
          have f0 := hR.out.1.frozen 0
          have f1 := hR.out.1.frozen 1
          clear hm
          go_wp2_with fail
          have q0 := hh.out.2.cell 0
          have q1 := hh.out.2.cell 1
          refine bodyPost_ret (v := .tuple #[.agg #[.slice none 0 0, .slice none 0 0], .int .i64 220]) (by simp [results, Tryz.results29, go_sem, q0, q1]) rfl ?_
          exact hh.out.1
        · have z0 : w3.cell? ⟨w.heap.size + 1, 0, none⟩ = some (.slice A1 P.length d1) := hR.out.2.1.cell 0
          have z1 : w3.cell? ⟨w.heap.size + 1, 1, none⟩ = some (.slice A2 Q.length d2) := hR.out.2.1.cell 1
          have hT := fun W h => rText_any (.slice A1 P.length d1) (.slice A2 Q.length d2) P Q W h hm
          obtain ⟨tx, htx⟩ : ∃ t, t = mkS (textL P Q) := ⟨_, rfl⟩
          rw [← htx] at hT
          have hsx : sl tx = textL P Q := by rw [htx]; exact sl_mk _ (textL_lt hm)
          replace hT := Lib.hid hT
          replace htx := Lib.hid htx
          replace hm := Lib.hid hm
          replace hsx := Lib.hid hsx
          go_wp2_with fail
          refine (hT.out _ (hI.out _ hR.out)).mono ?_
          rintro en w4 ⟨rfl, hb⟩
          replace hR := Lib.hid (hR.out.below hb)
          replace hB := Lib.hid (hB.out.trans (hb.mono hB.out.size))
          clear hb z0 z1
          have z0 : w4.cell? ⟨w.heap.size + 1, 0, none⟩ = some (.slice A1 P.length d1) := hR.out.2.1.cell 0
          have z1 : w4.cell? ⟨w.heap.size + 1, 1, none⟩ = some (.slice A2 Q.length d2) := hR.out.2.1.cell 1
          have x0 : w4.cell? ⟨w.heap.size, 0, none⟩ = some (.slice none 0 0) := hR.out.1.cell 0
          have x1 : w4.cell? ⟨w.heap.size, 1, none⟩ = some (.slice none 0 0) := hR.out.1.cell 1
          have f0 := hR.out.1.frozen 0
          have f1 := hR.out.1.frozen 1
          by_cases he : tx = s
          · subst he
            have hss : (tx.toList == tx.toList) = true := by simp
            have KZ := Lib.hid (Blk.set_ (Blk.set_ hR.out.1 0 (.slice A1 P.length d1)) 1 (.slice A2 Q.length d2))
            have hfin : RetRead (sl tx) w (.returned (.tuple #[.agg #[.slice A1 P.length d1, .slice A2 Q.length d2], .int .i64 0])) ((w4.setCell ⟨w.heap.size, 0, none⟩ (.slice A1 P.length d1)).setCell ⟨w.heap.size, 1, none⟩ (.slice A2 Q.length d2)) := by
              refine ⟨P, Q, 0, hd1.out ⟨hm.out, hsx.out.symm⟩, _, _, rfl, ?_, ?_, ?_⟩
              · exact (Pf.of_own (ownsRow_setCell_below (ownsRow_setCell_below hR.out.2.2.1 (by simp) _) (by simp) _)).le (by omega)
              · exact (Pf.of_own (ownsRow_setCell_below (ownsRow_setCell_below hR.out.2.2.2.1 (by simp) _) (by simp) _)).le (by omega)
              · exact (hB.out.setCell (p := ⟨w.heap.size, 0, none⟩) (by simp) _).setCell (p := ⟨w.heap.size, 1, none⟩) (by simp) _
            replace hfin := Lib.hid hfin
            go_wp2_with fail
            have q0 := KZ.out.cell 0
            have q1 := KZ.out.cell 1
            refine bodyPost_ret (v := .tuple #[.agg #[.slice A1 P.length d1, .slice A2 Q.length d2], .int .i64 0]) (by simp [results, Tryz.results29, go_sem, q0, q1]) rfl ?_
            exact hfin.out
          · have hss := neq_str he
            have hh := Lib.hid (errp.out (fun h => he (sl_inj (by rw [hsx.out]; exact h.2))) _ hR.out hB.out)
            clear he
            go_wp2_with fail
            have q0 := hh.out.2.cell 0
            have q1 := hh.out.2.cell 1
            refine bodyPost_ret (v := .tuple #[.agg #[.slice none 0 0, .slice none 0 0], .int .i64 220]) (by simp [results, Tryz.results29, go_sem, q0, q1]) rfl ?_
            exact hh.out.1

set_option maxRecDepth 100000 in
set_option maxHeartbeats 1000000 in
/-- filigreeref22.Same -/
theorem rsame_any (a b c d : Value) (P Q P' Q' : List Nat) (w : World) (h : Itn w a b P Q) (k : Itn w c d P' Q') :
    Calls Tryz.prog 12 #[.agg #[a, b], .agg #[c, d]] w (RetVal (.bool (decide (P = P') && decide (Q = Q'))) w) := by
  obtain ⟨⟨A1, n1, c1, T1, rfl, h1⟩, ⟨A2, n2, c2, T2, rfl, h2⟩, s1, s2, -, -⟩ := h
  obtain ⟨⟨A3, n3, c3, T3, rfl, h3⟩, ⟨A4, n4, c4, T4, rfl, h4⟩, s3, s4, -, -⟩ := k
  obtain ⟨W, hW⟩ : ∃ W, W = (w.alloc (.cells #[.slice A1 n1 c1, .slice A2 n2 c2] 30)).alloc (.cells #[.slice A3 n3 c3, .slice A4 n4 c4] 30) := ⟨_, rfl⟩
  have hBW : Below w.heap.size w W := by rw [hW]; exact ((Below.refl _ w).alloc (Nat.le_refl _) _).alloc (by simp) _
  have q1 := conv_rd W A1 n1 c1 P (h1.below hBW) s1 9 Tryz.underlying9
  have q2 := conv_rd W A2 n2 c2 Q (h2.below hBW) s2 9 Tryz.underlying9
  have q3 := conv_rd W A3 n3 c3 P' (h3.below hBW) s3 9 Tryz.underlying9
  have q4 := conv_rd W A4 n4 c4 Q' (h4.below hBW) s4 9 Tryz.underlying9
  have e1 := mkS_beq s1 s3
  have e2 := mkS_beq s2 s4
  obtain ⟨x, hx⟩ : ∃ x, x = decide (P = P') := ⟨_, rfl⟩
  obtain ⟨y, hy⟩ : ∃ y, y = decide (Q = Q') := ⟨_, rfl⟩
  rw [← hx] at e1 ⊢
  rw [← hy] at e2 ⊢
  obtain ⟨m1, hm1⟩ : ∃ m, m = mkS P := ⟨_, rfl⟩
  obtain ⟨m2, hm2⟩ : ∃ m, m = mkS Q := ⟨_, rfl⟩
  obtain ⟨m3, hm3⟩ : ∃ m, m = mkS P' := ⟨_, rfl⟩
  obtain ⟨m4, hm4⟩ : ∃ m, m = mkS Q' := ⟨_, rfl⟩
  rw [← hm1] at q1 e1
  rw [← hm2] at q2 e2
  rw [← hm3] at q3 e1
  rw [← hm4] at q4 e2
  rw [hW] at q1 q2 q3 q4 hBW
  replace hBW := Lib.hid hBW
  clear hW h1 h2 h3 h4 s1 s2 s3 s4 hx hy hm1 hm2 hm3 hm4
  cases x <;> cases y
  all_goals
    go_enter Tryz.func12, Tryz.ntmps12
    go_wp2_with fail
    go_ret
    exact ⟨rfl, hBW.out⟩

theorem rdOut_itnT {s P Q : List Nat} {E : Int} (h : RdOut s P Q E) {w : World} {B : Nat} {v1 v2 : Value} (h1 : Pf w B v1 P) (h2 : Pf w B v2 Q) : Itn w v1 v2 P Q := by
  have hb : (∀ x, x ∈ P → x < 256) ∧ (∀ x, x ∈ Q → x < 256) ∧ P.length ≤ 4096 ∧ Q.length ≤ 4096 := by
    have hc : mayI P Q = true ∨ (P = [] ∧ Q = []) := by
      rcases h with ⟨-, h1, h2, h3⟩ | ⟨-, ⟨h, -, -⟩ | ⟨h1, h2, h3, -⟩⟩
      · exact .inr ⟨h1, h2⟩
      · exact .inl h
      · exact .inr ⟨h1, h2⟩
    rcases hc with hm | ⟨rfl, rfl⟩
    · obtain ⟨-, m2, m3, m4⟩ := mayI_spec hm
      have hs : ∀ x, symB x = true → x < 256 := fun x h => by simp [symB] at h; omega
      exact ⟨fun x hx => hs x (m3 x hx), fun x hx => hs x (m4 x hx), by omega, by omega⟩
    · exact ⟨fun x hx => (by cases hx), fun x hx => (by cases hx), by simp, by simp⟩
  obtain ⟨A1, c1, e1, -⟩ := h1.form
  obtain ⟨A2, c2, e2, -⟩ := h2.form
  exact ⟨⟨_, _, _, _, e1, h1.rd⟩, ⟨_, _, _, _, e2, h2.rd⟩, hb.1, hb.2.1, by omega, by omega⟩

set_option maxRecDepth 100000 in
set_option maxHeartbeats 4000000 in
/-- filigreelaw22.ItinTexts -/
theorem itinTexts_any (a b : Value) (P Q : List Nat) (s : ByteArray) (w : World) (h : Itn w a b P Q) (hs : s.size ≤ 140737488351232) :
    Calls Tryz.prog 5 #[.agg #[a, b], .string s] w (RetVal (.bool true) w) := by
  have hI0 := h
  obtain ⟨⟨A1, n1, c1, T1, rfl, -⟩, ⟨A2, n2, c2, T2, rfl, -⟩, -, -, -, -⟩ := h
  have hBW : Below w.heap.size w (w.alloc (.cells #[.slice A1 n1 c1, .slice A2 n2 c2] 30)) := (Below.refl _ w).alloc (Nat.le_refl _) _
  have K := Lib.hid (Keeps.one (Blk.new w 30 #[.slice A1 n1 c1, .slice A2 n2 c2]))
  have hI : Hid (∀ W, Below w.heap.size w W → Itn W (.slice A1 n1 c1) (.slice A2 n2 c2) P Q) := Lib.hid (fun W hb => hI0.below hb)
  obtain ⟨tx, htx⟩ : ∃ t, t = if mayI P Q then mkS (textL P Q) else ⟨#[]⟩ := ⟨_, rfl⟩
  have hB := Lib.hid hBW
  replace htx := Lib.hid htx
  replace hs := Lib.hid hs
  clear hI0 hBW
  go_enter Tryz.func5, Tryz.ntmps5
  go_wp2_with fail
  refine (iText_any _ _ P Q _ (hI.out _ hB.out) tx htx.out).mono ?_
  rintro en w1 ⟨rfl, hb⟩
  replace K := Lib.hid (K.out.below hb)
  replace hB := Lib.hid (hB.out.trans (hb.mono hB.out.size))
  clear hb
  have z0 : w1.cell? ⟨w.heap.size, 0, none⟩ = some (.slice A1 n1 c1) := (K.out.at_ 0 rfl).cell 0
  have z1 : w1.cell? ⟨w.heap.size, 1, none⟩ = some (.slice A2 n2 c2) := (K.out.at_ 0 rfl).cell 1
  cases hm : mayI P Q
  · obtain rfl : tx = ⟨#[]⟩ := by rw [htx.out, hm]; rfl
    have htl : (⟨#[]⟩ : ByteArray).toList = [] := by rw [ByteArray.toList_eq]
    rw [mayI_no hm]
    have hM : Hid (∀ W, Below w.heap.size w W → Calls Tryz.prog 22 #[.agg #[.slice A1 n1 c1, .slice A2 n2 c2]] W (RetVal (.bool false) W)) := Lib.hid (fun W hb => by rw [← hm]; exact ritmay_any _ _ P Q _ (hI.out _ hb))
    clear hm htx
    go_wp2_with fail
    refine (hM.out _ hB.out).mono ?_
    rintro en w2 ⟨rfl, hb⟩
    replace K := Lib.hid (K.out.below hb)
    replace hB := Lib.hid (hB.out.trans (hb.mono hB.out.size))
    clear hb z0 z1
    have z0 : w2.cell? ⟨w.heap.size, 0, none⟩ = some (.slice A1 n1 c1) := (K.out.at_ 0 rfl).cell 0
    have z1 : w2.cell? ⟨w.heap.size, 1, none⟩ = some (.slice A2 n2 c2) := (K.out.at_ 0 rfl).cell 1
    go_wp2_with fail
    refine (hM.out _ hB.out).mono ?_
    rintro en w3 ⟨rfl, hb⟩
    replace K := Lib.hid (K.out.below hb)
    replace hB := Lib.hid (hB.out.trans (hb.mono hB.out.size))
    clear hb z0 z1 htl
    go_wp2_with fail
    refine (iRead_any s _ (by have := hs.out; omega)).mono ?_
    rintro en x1 ⟨P1, Q1, E1, ho1, v1, v2, rfl, f1, f2, hb⟩
    have J1 := rdOut_itnT ho1 f1 f2
    obtain ⟨B1, b1, rfl, -⟩ := f1.form
    obtain ⟨B2, b2, rfl, -⟩ := f2.form
    have hBn := hB.out.trans (hb.mono hB.out.size)
    obtain ⟨k1, hk1⟩ : ∃ k, k = P1.length := ⟨_, rfl⟩
    obtain ⟨k2, hk2⟩ : ∃ k, k = Q1.length := ⟨_, rfl⟩
    rw [← hk1, ← hk2] at J1 ⊢
    replace hk1 := Lib.hid hk1
    replace hk2 := Lib.hid hk2
    have K := Lib.hid (Keeps.one (Blk.new x1 30 #[.slice B1 k1 b1, .slice B2 k2 b2]))
    replace hB := Lib.hid (hBn.alloc hBn.size (.cells #[.slice B1 k1 b1, .slice B2 k2 b2] 30))
    replace J1 := Lib.hid (J1.alloc (.cells #[.slice B1 k1 b1, .slice B2 k2 b2] 30))
    clear hb hBn f1 f2
    go_upto_region 5 with fail
    generalize hW : x1.alloc (.cells #[.slice B1 k1 b1, .slice B2 k2 b2] 30) = x2 at hB K J1 ⊢
    generalize hg : x1.heap.size = ga at K ⊢
    clear hW hg x1
    go_wp2_with fail
    refine (rRead_any s _ (by have := hs.out; omega)).mono ?_
    rintro en x3 ⟨P2, Q2, E2, ho2, v1, v2, rfl, f1, f2, hb⟩
    have J2 := rdOut_itnT ho2 f1 f2
    obtain ⟨rfl, rfl, rfl⟩ := rdOut_same ho1 ho2
    obtain ⟨C1, c3, rfl, -⟩ := f1.form
    obtain ⟨C2, c4, rfl, -⟩ := f2.form
    have hBn := hB.out.trans (hb.mono hB.out.size)
    rw [← hk1.out, ← hk2.out] at J2 ⊢
    replace K := Lib.hid (((K.out.below hb).alloc (.cells #[.slice C1 k1 c3, .slice C2 k2 c4] 30)).snoc (Blk.new x3 30 #[.slice C1 k1 c3, .slice C2 k2 c4]))
    replace hB := Lib.hid (hBn.alloc hBn.size (.cells #[.slice C1 k1 c3, .slice C2 k2 c4] 30))
    replace J1 := Lib.hid ((J1.out.below hb).alloc (.cells #[.slice C1 k1 c3, .slice C2 k2 c4] 30))
    replace J2 := Lib.hid (J2.alloc (.cells #[.slice C1 k1 c3, .slice C2 k2 c4] 30))
    clear hb hBn f1 f2 ho1 ho2
    go_upto_region 6 with fail
    generalize hW : x3.alloc (.cells #[.slice C1 k1 c3, .slice C2 k2 c4] 30) = x4 at hB K J1 J2 ⊢
    generalize hg : x3.heap.size = gb at K ⊢
    clear hW hg x3
    have z0 : x4.cell? ⟨ga, 0, none⟩ = some (.slice B1 k1 b1) := (K.out.at_ 0 rfl).cell 0
    have z1 : x4.cell? ⟨ga, 1, none⟩ = some (.slice B2 k2 b2) := (K.out.at_ 0 rfl).cell 1
    have z2 : x4.cell? ⟨gb, 0, none⟩ = some (.slice C1 k1 c3) := (K.out.at_ 1 rfl).cell 0
    have z3 : x4.cell? ⟨gb, 1, none⟩ = some (.slice C2 k2 c4) := (K.out.at_ 1 rfl).cell 1
    have hEE : ((E1 : Int) == E1) = true := beq_self_eq_true _
    go_wp2_with fail
    refine (rsame_any _ _ _ _ P1 Q1 P1 Q1 _ J1.out J2.out).mono ?_
    rintro en x5 ⟨rfl, hb⟩
    rw [decide_eq_true (rfl : P1 = P1), decide_eq_true (rfl : Q1 = Q1)]
    replace hB := Lib.hid (hB.out.trans (hb.mono hB.out.size))
    clear hb z0 z1 z2 z3 K
    go_wp2_with fail
    refine (lives_any _).mono ?_
    rintro en wz ⟨rfl, hb⟩
    have hBz := Lib.hid (hB.out.trans (hb.mono hB.out.size))
    clear hb
    go_wp2_with fail
    go_ret
    exact ⟨rfl, hBz.out⟩
  · obtain rfl : tx = mkS (textL P Q) := by rw [htx.out, hm]; rfl
    rw [mayI_yes hm]
    have hM : Hid (∀ W, Below w.heap.size w W → Calls Tryz.prog 22 #[.agg #[.slice A1 n1 c1, .slice A2 n2 c2]] W (RetVal (.bool true) W)) := Lib.hid (fun W hb => by rw [← hm]; exact ritmay_any _ _ P Q _ (hI.out _ hb))
    have hT : Hid (∀ W, Below w.heap.size w W → Calls Tryz.prog 27 #[.agg #[.slice A1 n1 c1, .slice A2 n2 c2]] W (RetVal (.string (mkS (textL P Q))) W)) := Lib.hid (fun W hb => rText_any _ _ P Q _ (hI.out _ hb) hm)
    obtain ⟨tx, htx⟩ : ∃ t, t = mkS (textL P Q) := ⟨_, rfl⟩
    rw [← htx] at hT ⊢
    clear hm
    replace htx := Lib.hid htx
    have hss : (tx.toList == tx.toList) = true := by simp
    go_wp2_with fail
    refine (hM.out _ hB.out).mono ?_
    rintro en w2 ⟨rfl, hb⟩
    replace K := Lib.hid (K.out.below hb)
    replace hB := Lib.hid (hB.out.trans (hb.mono hB.out.size))
    clear hb z0 z1
    have z0 : w2.cell? ⟨w.heap.size, 0, none⟩ = some (.slice A1 n1 c1) := (K.out.at_ 0 rfl).cell 0
    have z1 : w2.cell? ⟨w.heap.size, 1, none⟩ = some (.slice A2 n2 c2) := (K.out.at_ 0 rfl).cell 1
    go_wp2_with fail
    refine (hM.out _ hB.out).mono ?_
    rintro en w3 ⟨rfl, hb⟩
    replace K := Lib.hid (K.out.below hb)
    replace hB := Lib.hid (hB.out.trans (hb.mono hB.out.size))
    clear hb z0 z1
    have z0 : w3.cell? ⟨w.heap.size, 0, none⟩ = some (.slice A1 n1 c1) := (K.out.at_ 0 rfl).cell 0
    have z1 : w3.cell? ⟨w.heap.size, 1, none⟩ = some (.slice A2 n2 c2) := (K.out.at_ 0 rfl).cell 1
    go_wp2_with fail
    refine (hT.out _ hB.out).mono ?_
    rintro en w4 ⟨rfl, hb⟩
    replace hB := Lib.hid (hB.out.trans (hb.mono hB.out.size))
    clear hb z0 z1 K
    go_wp2_with fail
    refine (iRead_any s _ (by have := hs.out; omega)).mono ?_
    rintro en x1 ⟨P1, Q1, E1, ho1, v1, v2, rfl, f1, f2, hb⟩
    have J1 := rdOut_itnT ho1 f1 f2
    obtain ⟨B1, b1, rfl, -⟩ := f1.form
    obtain ⟨B2, b2, rfl, -⟩ := f2.form
    have hBn := hB.out.trans (hb.mono hB.out.size)
    obtain ⟨k1, hk1⟩ : ∃ k, k = P1.length := ⟨_, rfl⟩
    obtain ⟨k2, hk2⟩ : ∃ k, k = Q1.length := ⟨_, rfl⟩
    rw [← hk1, ← hk2] at J1 ⊢
    replace hk1 := Lib.hid hk1
    replace hk2 := Lib.hid hk2
    have K := Lib.hid (Keeps.one (Blk.new x1 30 #[.slice B1 k1 b1, .slice B2 k2 b2]))
    replace hB := Lib.hid (hBn.alloc hBn.size (.cells #[.slice B1 k1 b1, .slice B2 k2 b2] 30))
    replace J1 := Lib.hid (J1.alloc (.cells #[.slice B1 k1 b1, .slice B2 k2 b2] 30))
    clear hb hBn f1 f2
    go_upto_region 5 with fail
    generalize hW : x1.alloc (.cells #[.slice B1 k1 b1, .slice B2 k2 b2] 30) = x2 at hB K J1 ⊢
    generalize hg : x1.heap.size = ga at K ⊢
    clear hW hg x1
    go_wp2_with fail
    refine (rRead_any s _ (by have := hs.out; omega)).mono ?_
    rintro en x3 ⟨P2, Q2, E2, ho2, v1, v2, rfl, f1, f2, hb⟩
    have J2 := rdOut_itnT ho2 f1 f2
    obtain ⟨rfl, rfl, rfl⟩ := rdOut_same ho1 ho2
    obtain ⟨C1, c3, rfl, -⟩ := f1.form
    obtain ⟨C2, c4, rfl, -⟩ := f2.form
    have hBn := hB.out.trans (hb.mono hB.out.size)
    rw [← hk1.out, ← hk2.out] at J2 ⊢
    replace K := Lib.hid (((K.out.below hb).alloc (.cells #[.slice C1 k1 c3, .slice C2 k2 c4] 30)).snoc (Blk.new x3 30 #[.slice C1 k1 c3, .slice C2 k2 c4]))
    replace hB := Lib.hid (hBn.alloc hBn.size (.cells #[.slice C1 k1 c3, .slice C2 k2 c4] 30))
    replace J1 := Lib.hid ((J1.out.below hb).alloc (.cells #[.slice C1 k1 c3, .slice C2 k2 c4] 30))
    replace J2 := Lib.hid (J2.alloc (.cells #[.slice C1 k1 c3, .slice C2 k2 c4] 30))
    clear hb hBn f1 f2 ho1 ho2
    go_upto_region 6 with fail
    generalize hW : x3.alloc (.cells #[.slice C1 k1 c3, .slice C2 k2 c4] 30) = x4 at hB K J1 J2 ⊢
    generalize hg : x3.heap.size = gb at K ⊢
    clear hW hg x3
    have z0 : x4.cell? ⟨ga, 0, none⟩ = some (.slice B1 k1 b1) := (K.out.at_ 0 rfl).cell 0
    have z1 : x4.cell? ⟨ga, 1, none⟩ = some (.slice B2 k2 b2) := (K.out.at_ 0 rfl).cell 1
    have z2 : x4.cell? ⟨gb, 0, none⟩ = some (.slice C1 k1 c3) := (K.out.at_ 1 rfl).cell 0
    have z3 : x4.cell? ⟨gb, 1, none⟩ = some (.slice C2 k2 c4) := (K.out.at_ 1 rfl).cell 1
    have hEE : ((E1 : Int) == E1) = true := beq_self_eq_true _
    go_wp2_with fail
    refine (rsame_any _ _ _ _ P1 Q1 P1 Q1 _ J1.out J2.out).mono ?_
    rintro en x5 ⟨rfl, hb⟩
    rw [decide_eq_true (rfl : P1 = P1), decide_eq_true (rfl : Q1 = Q1)]
    replace hB := Lib.hid (hB.out.trans (hb.mono hB.out.size))
    clear hb z0 z1 z2 z3 K
    go_wp2_with fail
    refine (lives_any _).mono ?_
    rintro en wz ⟨rfl, hb⟩
    have hBz := Lib.hid (hB.out.trans (hb.mono hB.out.size))
    clear hb
    go_wp2_with fail
    go_ret
    exact ⟨rfl, hBz.out⟩
end Go.Proofs.YtbddlbhanpjdnaaGreatDoor
