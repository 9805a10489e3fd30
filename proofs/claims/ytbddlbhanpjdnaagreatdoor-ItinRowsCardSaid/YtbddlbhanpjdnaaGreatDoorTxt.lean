/- strings.Builder by hand: copyCheck, WriteString. · Package itin: word, Text. · filigreelaw22: ratio at 1/7; lives: it is true. -/
import Derived.Test.YtbddlbhanpjdnaaGreatDoorItO
import Derived.Lib.AppendStr
import Derived.Lib.Builder
namespace Go.Proofs.YtbddlbhanpjdnaaGreatDoor
open Go.RowKit Go.Sort

theorem bld_size : (Tryz.prog.info? 88).map (·.size) = some 2 := by kernel_rfl
theorem bld_lies : liesAt Tryz.prog Tryz.prog.depth 88 (2 / Tryz.prog.cellsOf 88) 0 88 1 = true := by kernel_rfl

set_option maxRecDepth 100000 in
theorem copyCheck_fresh (b : Nat) (w : World) (h0 : w.cell? ⟨b, 0, none⟩ = some (.pointer none)) (hsh : w.shape? b = some (88, 2)) (hfz : w.frozen? ⟨b, 0, none⟩ = false) :
    Calls Tryz.prog 69 #[.pointer (some ⟨b, 0, none⟩)] w fun e w' => e = .returned (.tuple #[]) ∧ w' = w.setCell ⟨b, 0, none⟩ (.pointer (some ⟨b, 0, none⟩)) := by
  obtain ⟨j, hj, hjs⟩ := Option.map_eq_some_iff.1 bld_size
  go_enter Tryz.func69, Tryz.ntmps69
  go_wp2
  rw [Lib.run_to_unsafe w ⟨b, 0, none⟩ Tryz.underlying86 Tryz.underlying122 hj (by rw [hjs]; decide) hsh (Nat.zero_lt_succ 1)]
  simp only [Result.andThen]
  rw [Oper.upon_value]
  go_wp2
  rw [run_callFunc_extern Tryz.func79 (by kernel_rfl) (by kernel_rfl) (by kernel_rfl) (e := Extern.AbiNoEscape.same) (by kernel_rfl)]
  rw [Lib.run_noEscape]
  simp only [Result.andThen]
  rw [Oper.upon_value]
  go_wp2
  rw [Lib.run_from_unsafe w ⟨b, 0, none⟩ Tryz.underlying122 Tryz.underlying86 hj hsh bld_lies]
  simp only [Result.andThen]
  rw [Oper.upon_value]
  go_wp2
  go_end0
  exact ⟨rfl, rfl⟩
set_option maxRecDepth 100000 in
theorem copyCheck_used (b : Nat) (w : World) (h0 : w.cell? ⟨b, 0, none⟩ = some (.pointer (some ⟨b, 0, none⟩))) :
    Calls Tryz.prog 69 #[.pointer (some ⟨b, 0, none⟩)] w fun e w' => e = .returned (.tuple #[]) ∧ w' = w := by
  obtain ⟨j, hj, _⟩ := Option.map_eq_some_iff.1 bld_size
  go_enter Tryz.func69, Tryz.ntmps69
  go_wp2
  rw [Lib.run_neq_ptr_same w _ Tryz.underlying86 hj]
  go_wp2
  go_end0
  exact ⟨rfl, rfl⟩
theorem copyCheck_any (B b : Nat) (bs : List Value) (w : World) (h : Lib.IsBuilder 88 5 B b bs w) :
    Calls Tryz.prog 69 #[.pointer (some ⟨b, 0, none⟩)] w fun e w' => e = .returned (.tuple #[]) ∧ Lib.BuilderAt 88 5 B b (.pointer (some ⟨b, 0, none⟩)) bs w' ∧ Below B w w' := by
  rcases h with h | h
  · refine (copyCheck_fresh b w h.cell0 h.shape h.frozen0).mono ?_
    rintro e w' ⟨rfl, rfl⟩
    exact ⟨rfl, h.used _, (Below.refl B w).setCell (p := ⟨b, 0, none⟩) h.1 _⟩
  · refine (copyCheck_used b w h.cell0).mono ?_
    rintro e w' ⟨rfl, rfl⟩
    exact ⟨rfl, h, Below.refl B _⟩
set_option maxRecDepth 100000 in
set_option maxHeartbeats 1000000 in
/-- (*strings.Builder).WriteString -/
theorem bWrite_any (B b : Nat) (bs : List Value) (s : ByteArray) (w : World) (h : Lib.IsBuilder 88 5 B b bs w) (hlen : bs.length + s.size ≤ 140737488355328) (hBw : B ≤ w.heap.size) :
    Calls Tryz.prog 48 #[.pointer (some ⟨b, 0, none⟩), .string s] w fun e w' => e = .returned (.tuple #[.int .i64 s.size, .nilIface]) ∧ Lib.BuilderAt 88 5 B b (.pointer (some ⟨b, 0, none⟩)) (bs ++ Lib.strCells s) w' ∧ Below B w w' := by
  obtain ⟨i0, hi, hz0, hz1, hz2⟩ := info_parts info_u8
  go_enter Tryz.func48, Tryz.ntmps48
  go_wp2_with fail
  refine (copyCheck_any B b bs _ h).mono ?_
  rintro e w1 ⟨rfl, h1, hb1⟩
  obtain ⟨hB, v, hbk, hown, hne⟩ := h1
  have c0 : w1.cell? ⟨b, 0, none⟩ = some (.pointer (some ⟨b, 0, none⟩)) := by rw [Lib.cell_of_heap hbk]; rfl
  have c1 : w1.cell? ⟨b, 1, none⟩ = some v := by rw [Lib.cell_of_heap hbk]; rfl
  go_wp2_with (at_builtin; refine Lib.wpList_append_own_string _ rfl _ _ 28 9 rfl B 5 i0 Tryz.underlying28 Tryz.underlying9 hi hz0 hz1 hz2 _ _ _ rfl hown s rfl ?c3 ?c4 ?c5 ?_)
  case c3 => unfold maxLen; omega
  case c4 => omega
  case c5 => have := hb1.size; omega
  intro v' w2 hown' hgrow _
  have hlt : b < w1.heap.size := by
    rcases Nat.lt_or_ge b w1.heap.size with h' | h'
    · exact h'
    · simp [Array.getElem?_eq_none h'] at hbk
  have hb2 : w2.heap[b]? = some (.cells #[.pointer (some ⟨b, 0, none⟩), v] 88 (0, 0)) := by
    rw [hgrow.block b hlt (fun e => hne e.symm)]
    exact hbk
  have d0 : w2.cell? ⟨b, 0, none⟩ = some (.pointer (some ⟨b, 0, none⟩)) := by rw [Lib.cell_of_heap hb2]; rfl
  have d1 : w2.cell? ⟨b, 1, none⟩ = some v := by rw [Lib.cell_of_heap hb2]; rfl
  have f1 : w2.frozen? ⟨b, 1, none⟩ = false := Lib.frozen_of_heap hb2 1
  obtain ⟨ao, n', cap, rfl⟩ : ∃ ao n' cap, v' = .slice ao n' cap := by
    rcases hown'.2 with ⟨hv, _⟩ | ⟨g, cap, cur, hv, _⟩
    · exact ⟨_, _, _, hv⟩
    · exact ⟨_, _, _, hv⟩
  go_wp2
  go_ret2
  refine ⟨rfl, ?_, ?_⟩
  · exact Lib.BuilderAt.put (T := 88) (e := 5) hB hb2 (bs' := bs ++ Lib.strCells s) (by simpa [Lib.strCells_length] using hown') (by decide)
  · exact (hb1.grown hgrow (by have := hb1.size; omega) (fun k hk => (hown.lt k hk).1)).setCell (p := ⟨b, 1, none⟩) hB _

/-- Bytes as a string. -/
def mkS (l : List Nat) : ByteArray := ⟨(l.map UInt8.ofNat).toArray⟩
theorem mkS_size (l : List Nat) : (mkS l).size = l.length := by
  show ((l.map UInt8.ofNat).toArray).size = _
  simp
theorem mkS_append (l m : List Nat) : mkS l ++ mkS m = mkS (l ++ m) := by
  apply ByteArray.ext
  simp [mkS]
theorem mkS_data (l : List Nat) : (mkS l).data.toList = l.map UInt8.ofNat := by simp [mkS]

/-- A symbol's text. -/
def wordL (x : Nat) : List Nat := if x = 255 then [42] else if x < 10 then [48 + x] else [48 + x / 10, 48 + x % 10]
theorem wordL_len (x : Nat) : (wordL x).length ≤ 2 := by
  unfold wordL
  split
  · simp
  · split <;> simp
theorem dec_word : ∀ x, x < 64 → (⟨(Lib.decDigits x).toArray⟩ : ByteArray) = mkS (wordL x) := by
  have h : ((List.range 64).all fun x => decide ((Lib.decDigits x) = (wordL x).map UInt8.ofNat)) = true := by kernel_rfl
  intro x hx
  have := List.all_eq_true.1 h x (List.mem_range.2 hx)
  rw [mkS, of_decide_eq_true this]

set_option maxRecDepth 100000 in
/-- itin.word -/
theorem word_any (x : Nat) (w : World) (hx : symB x = true) : Calls Tryz.prog 49 #[.int .u8 (x : Int)] w (RetVal (.string (mkS (wordL x))) w) := by
  by_cases h : x = 255
  · subst h
    go_enter Tryz.func49, Tryz.ntmps49
    go_wp2_with fail
    go_ret
    exact ⟨rfl, Below.refl _ _⟩
  · have hI : ((x : Int) == 255) = false := by rw [beq_eq_false_iff_ne]; omega
    have hxs : x < 64 := by simp [symB] at hx; omega
    have hw : wrap64 (x : Int) = (x : Int) := wrap64_nat (by omega)
    have hv := Lib.hid (dec_word x hxs)
    go_enter Tryz.func49, Tryz.ntmps49
    go_wp2_with fail
    refine (Tryz.strconv_Itoa_small x (by omega) _).mono ?_
    rintro e w1 ⟨rfl, rfl⟩
    rw [hv.out]
    go_wp2_with fail
    go_ret
    exact ⟨rfl, Below.refl _ _⟩

/-- The text of what stands ahead; of the period, without the last bracket; of a row. -/
def preW (l : List Nat) : List Nat := l.flatMap fun x => wordL x ++ [32]
def perW : List Nat → List Nat
  | [] => []
  | x :: l => 40 :: wordL x ++ l.flatMap fun y => 32 :: wordL y
def textL (p q : List Nat) : List Nat := preW p ++ perW q ++ [41]
theorem preW_snoc (l : List Nat) (x : Nat) : preW (l ++ [x]) = preW l ++ (wordL x ++ [32]) := by simp [preW]
theorem perW_one (x : Nat) : perW [x] = [40] ++ wordL x := by simp [perW]
theorem perW_snoc (l : List Nat) (x : Nat) (h : l ≠ []) : perW (l ++ [x]) = perW l ++ [32] ++ wordL x := by
  cases l with
  | nil => exact absurd rfl h
  | cons y l => simp [perW]
theorem preW_len (l : List Nat) : (preW l).length ≤ 3 * l.length := by
  induction l with
  | nil => simp [preW]
  | cons x l ih =>
    have h := wordL_len x
    have e : preW (x :: l) = (wordL x ++ [32]) ++ preW l := by simp [preW]
    rw [e]
    simp only [List.length_append, List.length_cons, List.length_nil]
    omega
theorem perW_len (l : List Nat) : (perW l).length ≤ 3 * l.length := by
  have h2 : ∀ m : List Nat, (m.flatMap fun y => 32 :: wordL y).length ≤ 3 * m.length := by
    intro m
    induction m with
    | nil => simp
    | cons y m ih =>
      have h := wordL_len y
      simp only [List.flatMap_cons, List.length_append, List.length_cons]
      omega
  cases l with
  | nil => simp [perW]
  | cons x l =>
    have h := wordL_len x
    have h3 := h2 l
    simp only [perW, List.length_append, List.length_cons]
    omega
theorem strCells_mkS (l : List Nat) : Lib.strCells (mkS l) = Lib.byteCells (l.map UInt8.ofNat) := by rw [Lib.strCells_eq, mkS_data]
theorem cells_add (l m : List Nat) : Lib.byteCells (l.map UInt8.ofNat) ++ Lib.strCells (mkS m) = Lib.byteCells ((l ++ m).map UInt8.ofNat) := by
  rw [strCells_mkS, List.map_append, Lib.byteCells_append]
theorem take_next {l : List Nat} {i x : Nat} (h : l[i]? = some x) : l.take (i + 1) = l.take i ++ [x] := by
  have hi := lt_of_getElem? h
  rw [List.take_succ_eq_append_getElem hi]
  rw [List.getElem?_eq_getElem hi] at h
  rw [Option.some.inj h]

theorem bwrite_l (B b : Nat) (l m : List Nat) (w : World) (h : Lib.IsBuilder 88 5 B b (Lib.byteCells (l.map UInt8.ofNat)) w) (hlen : l.length + m.length ≤ 140737488355328) (hBw : B ≤ w.heap.size) :
    Calls Tryz.prog 48 #[.pointer (some ⟨b, 0, none⟩), .string (mkS m)] w fun e w' => e = .returned (.tuple #[.int .i64 ((mkS m).size : Nat), .nilIface]) ∧ Lib.IsBuilder 88 5 B b (Lib.byteCells ((l ++ m).map UInt8.ofNat)) w' ∧ Below B w w' := by
  refine (bWrite_any B b _ (mkS m) w h (by rw [mkS_size, Lib.byteCells_length, List.length_map]; exact hlen) hBw).mono ?_
  rintro e w' ⟨rfl, h1, h2⟩
  rw [cells_add] at h1
  exact ⟨rfl, .inr h1, h2⟩
theorem bstr_l (B b : Nat) (l : List Nat) (w : World) (h : Lib.IsBuilder 88 5 B b (Lib.byteCells (l.map UInt8.ofNat)) w) (hBw : B ≤ w.heap.size) :
    Calls Tryz.prog 50 #[.pointer (some ⟨b, 0, none⟩)] w fun e w' => e = .returned (.string (mkS l)) ∧ Below B w w' := Tryz.Builder_String_any B b _ w h hBw
theorem bnew (w : World) : Lib.IsBuilder 88 5 w.heap.size w.heap.size (Lib.byteCells (([] : List Nat).map UInt8.ofNat)) (w.alloc (.cells #[.pointer none, .slice none 0 0] 88)) :=
  .inl ⟨Nat.le_refl _, .slice none 0 0, heap_alloc_new w _, World.ownsRow_nil _ _ _ _, by simp [Value.ownBlock]⟩

set_option maxRecDepth 100000 in
set_option maxHeartbeats 2000000 in
/-- itin.Text -/
theorem iText_any (a b : Value) (P Q : List Nat) (w : World) (h : Itn w a b P Q) (t : ByteArray) (ht : t = if mayI P Q then mkS (textL P Q) else ⟨#[]⟩) :
    Calls Tryz.prog 26 #[.agg #[a, b]] w (RetVal (.tuple #[.string t, .int .i64 (chkE P Q)]) w) := by
  obtain ⟨⟨A1, n1, c1, T1, rfl, h1⟩, ⟨A2, n2, c2, T2, rfl, h2⟩, s1, s2, l1, l2⟩ := h
  obtain ⟨r, hr⟩ : ∃ r, r = chkE P Q := ⟨_, rfl⟩
  have hBW : Below w.heap.size w (w.alloc (.cells #[.slice A1 n1 c1, .slice A2 n2 c2] 30)) := (Below.refl _ w).alloc (Nat.le_refl _) _
  have k0 := Blk.new w 30 #[.slice A1 n1 c1, .slice A2 n2 c2]
  have q1 := h1.alloc (.cells #[.slice A1 n1 c1, .slice A2 n2 c2] 30)
  have q2 := h2.alloc (.cells #[.slice A1 n1 c1, .slice A2 n2 c2] 30)
  have hC := fun W h1 h2 => iCheck_any (T1 := T1) (T2 := T2) A1 A2 n1 c1 n2 c2 P Q W h1 h2 s1 s2 l1 l2
  rw [← hr] at hC ⊢
  obtain ⟨p, hp⟩ : ∃ p, p = P.length := ⟨_, rfl⟩
  obtain ⟨q, hq⟩ : ∃ q, q = Q.length := ⟨_, rfl⟩
  obtain rfl : n1 = p := by rw [hp]; exact (rd_cells h1).1
  obtain rfl : n2 = q := by rw [hq]; exact (rd_cells h2).1
  have hR1 := Lib.hid h1
  have hR2 := Lib.hid h2
  replace hBW := Lib.hid hBW
  replace k0 := Lib.hid k0
  replace q1 := Lib.hid q1
  replace q2 := Lib.hid q2
  replace hC := Lib.hid hC
  replace hr := Lib.hid hr
  replace ht := Lib.hid ht
  replace hp := Lib.hid hp
  replace hq := Lib.hid hq
  clear h1 h2 s1 s2 l1 l2
  go_enter Tryz.func26, Tryz.ntmps26
  go_wp2_with fail
  refine (hC.out _ q1.out q2.out).mono ?_
  rintro en v1 ⟨rfl, hb⟩
  have hB1 := Lib.hid (hBW.out.trans (hb.mono (by simp)))
  have j0 := Lib.hid (Blk.below k0.out hb)
  clear hb hBW k0 q1 q2 hC
  cases hm : mayI P Q
  · obtain rfl : r = 220 := by rw [hr.out]; exact mayI_no hm
    have hv : Hid (t = ⟨#[]⟩) := Lib.hid (by rw [ht.out, hm]; rfl)
    clear hm hr ht
    go_wp2_with fail
    go_ret2
    exact ⟨by rw [hv.out]; rfl, hB1.out⟩
  · obtain rfl : r = 0 := by rw [hr.out]; exact mayI_yes hm
    have hv : Hid (t = mkS (textL P Q)) := Lib.hid (by rw [ht.out, hm]; rfl)
    obtain ⟨m1, m2, m3, m4⟩ := mayI_spec hm
    rw [← hp.out, ← hq.out] at m2
    rw [← hq.out] at m1
    replace m3 := Lib.hid m3
    replace m4 := Lib.hid m4
    clear hm hr ht
    obtain ⟨B, hBe⟩ : ∃ B, B = v1.heap.size := ⟨_, rfl⟩
    have kb := Lib.hid (bnew v1)
    have hB2 := Lib.hid (hB1.out.alloc hB1.out.size (.cells #[.pointer none, .slice none 0 0] 88))
    have j2 := Lib.hid (Blk.alloc j0.out (.cells #[.pointer none, .slice none 0 0] 88))
    have hwB : Hid (w.heap.size < B) := Lib.hid (by rw [hBe]; exact j0.out.lt)
    rw [← hBe] at kb
    clear hB1
    go_upto_region 5 with fail
    rw [← hBe]
    generalize hW : v1.alloc (.cells #[.pointer none, .slice none 0 0] 88) = W at kb hB2 j2 ⊢
    have hBW : Hid (B ≤ W.heap.size) := Lib.hid (by rw [hBe, ← hW]; simp)
    clear hW hBe j0
    have a0 : W.cell? ⟨w.heap.size, 0, none⟩ = some (.slice A1 n1 c1) := j2.out.cell 0
    have a1 : W.cell? ⟨w.heap.size, 1, none⟩ = some (.slice A2 n2 c2) := j2.out.cell 1
    go_wp2_with fail
    go_loopw [7, 18] (fun _ iv wr => ∃ i : Nat, iv = .int .i64 (i : Int) ∧ i ≤ n1 ∧ Lib.IsBuilder 88 5 B B (Lib.byteCells ((preW (P.take i)).map UInt8.ofNat)) wr ∧ B ≤ wr.heap.size ∧ Blk wr w.heap.size 30 #[.slice A1 n1 c1, .slice A2 n2 c2] ∧ Below w.heap.size w wr) (fun _ iv _ => n1 - (intOf iv).toNat)
    case atStart => exact ⟨0, rfl, Nat.zero_le _, kb.out, hBW.out, j2.out, hB2.out⟩
    case round =>
      obtain ⟨i, rfl, hi, hbd, hsz, jb, hBr⟩ := hrel
      clear a0 a1
      replace hbd := Lib.hid hbd
      replace hsz := Lib.hid hsz
      replace hBr := Lib.hid hBr
      by_cases h0 : i < n1
      · have h0I : (i : Int) < (n1 : Int) := by omega
        obtain ⟨g, off, rfl, -, hc⟩ := (rd_cells (hR1.out.below hBr.out)).2.2.2 (fun e => by rw [hp.out, e] at h0; simp at h0)
        obtain ⟨x, hx⟩ : ∃ x, P[i]? = some x := ⟨_, List.getElem?_eq_getElem (by rw [← hp.out]; exact h0)⟩
        have c0 : wr.cell? ⟨g, off + i, none⟩ = some (.int .u8 (x : Int)) := hc i x hx
        have hsx := m3.out x (List.mem_of_getElem? hx)
        have htk := Lib.hid (take_next hx)
        have hl := preW_len (P.take i)
        have hl2 : (P.take i).length ≤ 4096 := by rw [List.length_take]; omega
        have hl3 := wordL_len x
        replace hl : Hid ((preW (P.take i)).length + (wordL x ++ [32]).length ≤ 140737488355328) := Lib.hid (by simp only [List.length_append, List.length_cons, List.length_nil]; omega)
        have hadd : ∀ W, (Op.stringOp .add (mkS (wordL x)) ⟨#[32]⟩).run Tryz.prog W = .ok (.string (mkS (wordL x ++ [32]))) W := fun W => by
          rw [run_string_add_sum _ _ _ (by rw [mkS_size]; show _ + 1 ≤ _; omega), show (⟨#[32]⟩ : ByteArray) = mkS [32] from rfl, mkS_append]
        replace hsx := Lib.hid hsx
        replace hx := Lib.hid hx
        clear hc hl2 hl3
        go_wp2_with fail
        refine (word_any x _ hsx.out).mono ?_
        rintro e w2 ⟨rfl, hb⟩
        have hbd2 : Lib.IsBuilder 88 5 B B (Lib.byteCells ((preW (P.take i)).map UInt8.ofNat)) w2 := by
          rcases hbd.out with h | h
          · obtain ⟨k1, v, k2, k3, k4⟩ := h
            exact .inl ⟨k1, v, (hb.block _ (heap_lt k2)).trans k2, own_below k3 hb, k4⟩
          · obtain ⟨k1, v, k2, k3, k4⟩ := h
            exact .inr ⟨k1, v, (hb.block _ (heap_lt k2)).trans k2, own_below k3 hb, k4⟩
        have hsz2 := Lib.hid (Nat.le_trans hsz.out hb.size)
        have jb2 := Lib.hid (Blk.below jb hb)
        have hBr2 := Lib.hid (hBr.out.trans (hb.mono hBr.out.size))
        replace hbd2 := Lib.hid hbd2
        clear hb hbd hsz jb hBr c0
        go_wp2_with fail
        refine (bwrite_l B B _ _ _ hbd2.out hl.out hsz2.out).mono ?_
        rintro e w3 ⟨rfl, hbd3, hb⟩
        have hsz3 := Lib.hid (Nat.le_trans hsz2.out hb.size)
        have jb3 := Lib.hid (show Blk w3 w.heap.size 30 #[.slice (some ⟨g, off, none⟩) n1 c1, .slice A2 n2 c2] from (hb.block _ hwB.out).trans jb2.out)
        have hBr3 := Lib.hid (hBr2.out.trans (hb.mono (Nat.le_of_lt hwB.out)))
        rw [← preW_snoc, ← htk.out] at hbd3
        replace hbd3 := Lib.hid hbd3
        clear hb hbd2 hsz2 jb2 hBr2 hadd
        go_wp2_with fail
        go_roundw
        case rel => exact ⟨i + 1, by go_num, by omega, hbd3.out, hsz3.out, jb3.out, hBr3.out⟩
        case measure => simp [intOf]; omega
      · obtain rfl : i = n1 := by omega
        have h0I : ¬ (i : Int) < (i : Int) := by omega
        have hP : Hid (P.take i = P) := Lib.hid (by rw [hp.out, List.take_length])
        have a0 : wr.cell? ⟨w.heap.size, 0, none⟩ = some (.slice A1 i c1) := jb.cell 0
        have a1 : wr.cell? ⟨w.heap.size, 1, none⟩ = some (.slice A2 n2 c2) := jb.cell 1
        replace jb := Lib.hid jb
        go_wp2_with fail
        go_loopw [8, 9, 30] (fun _ _ jv wr => ∃ j : Nat, jv = .int .i64 (j : Int) ∧ j ≤ n2 ∧ Lib.IsBuilder 88 5 B B (Lib.byteCells ((preW P ++ perW (Q.take j)).map UInt8.ofNat)) wr ∧ B ≤ wr.heap.size ∧ Below w.heap.size w wr) (fun _ _ jv _ => n2 - (intOf jv).toNat)
        case atStart => exact ⟨0, rfl, Nat.zero_le _, by have := hbd.out; rw [hP.out] at this; rw [List.take_zero, show perW [] = [] from rfl, List.append_nil]; exact this, hsz.out, hBr.out⟩
        case round =>
          clear a0 a1 hbd hsz hBr jb hP
          obtain ⟨j, rfl, hj, hbd, hsz, hBz⟩ := hrel
          replace hbd := Lib.hid hbd
          replace hsz := Lib.hid hsz
          replace hBz := Lib.hid hBz
          have hl1 := preW_len P
          have hl2 := perW_len (Q.take j)
          have hl3 : (Q.take j).length ≤ j := List.length_take_le _ _
          have hlP : P.length ≤ 4096 := by rw [← hp.out]; omega
          by_cases h1 : j < n2
          · have h1I : (j : Int) < (n2 : Int) := by omega
            obtain ⟨g, off, rfl, -, hc⟩ := (rd_cells (hR2.out.below hBz.out)).2.2.2 (fun e => by rw [hq.out, e] at h1; simp at h1)
            obtain ⟨x, hx⟩ : ∃ x, Q[j]? = some x := ⟨_, List.getElem?_eq_getElem (by rw [← hq.out]; exact h1)⟩
            have c0 : wr.cell? ⟨g, off + j, none⟩ = some (.int .u8 (x : Int)) := hc j x hx
            have hsx := Lib.hid (m4.out x (List.mem_of_getElem? hx))
            have htk := take_next hx
            have hl4 := wordL_len x
            have hla : Hid ((preW P ++ perW (Q.take j)).length ≤ 40000) := Lib.hid (by rw [List.length_append]; omega)
            have hwx : Hid ((wordL x).length ≤ 2) := Lib.hid hl4
            obtain ⟨k, hk⟩ : ∃ k, k = if j = 0 then 40 else 32 := ⟨_, rfl⟩
            have hnx : Hid ((preW P ++ perW (Q.take j) ++ [k]) ++ wordL x = preW P ++ perW (Q.take (j + 1))) := Lib.hid (by
              rw [htk, hk]
              by_cases e : j = 0
              · subst e
                rw [List.take_zero, List.nil_append, perW_one, if_pos rfl]
                simp [perW]
              · rw [if_neg e, perW_snoc _ _ (fun h => by have := congrArg List.length h; rw [List.length_take, ← hq.out] at this; simp at this; omega)]
                simp)
            replace hx := Lib.hid hx
            have hwr := fun W h1 h2 => bwrite_l B B (preW P ++ perW (Q.take j)) [k] W h1 (by have := hla.out; simp only [List.length_cons, List.length_nil]; omega) h2
            have hwr2 := fun W h1 h2 => bwrite_l B B (preW P ++ perW (Q.take j) ++ [k]) (wordL x) W h1 (by have := hla.out; have := hwx.out; rw [List.length_append]; simp only [List.length_cons, List.length_nil]; omega) h2
            rw [hnx.out] at hwr2
            replace hwr2 := Lib.hid hwr2
            have hend : ∀ W, Lib.IsBuilder 88 5 B B (Lib.byteCells ((preW P ++ perW (Q.take j) ++ [k]).map UInt8.ofNat)) W → B ≤ W.heap.size → Below w.heap.size w W →
                Calls Tryz.prog 49 #[.int .u8 (x : Int)] W (fun e W' => e = .returned (.string (mkS (wordL x))) ∧ Hid (Lib.IsBuilder 88 5 B B (Lib.byteCells ((preW P ++ perW (Q.take j) ++ [k]).map UInt8.ofNat)) W' ∧ B ≤ W'.heap.size ∧ Below w.heap.size w W')) := fun W g1 g2 g3 => by
              refine (word_any x _ hsx.out).mono ?_
              rintro e w2 ⟨rfl, hb⟩
              refine ⟨rfl, Lib.hid ⟨?_, Nat.le_trans g2 hb.size, g3.trans (hb.mono g3.size)⟩⟩
              rcases g1 with h | h
              · obtain ⟨k1, v, k2, k3, k4⟩ := h
                exact .inl ⟨k1, v, (hb.block _ (heap_lt k2)).trans k2, own_below k3 hb, k4⟩
              · obtain ⟨k1, v, k2, k3, k4⟩ := h
                exact .inr ⟨k1, v, (hb.block _ (heap_lt k2)).trans k2, own_below k3 hb, k4⟩
            replace hend := Lib.hid hend
            clear hc hl1 hl2 hl3 hl4 hlP htk
            by_cases e : j = 0
            · rw [if_pos e] at hk
              subst hk
              subst e
              rw [Nat.add_zero] at c0
              replace hwr := Lib.hid hwr
              go_wp2_with fail
              refine (hwr.out _ hbd.out hsz.out).mono ?_
              rintro en w2 ⟨rfl, hbd2, hb⟩
              have hsz2 := Nat.le_trans hsz.out hb.size
              have hB2 := hBz.out.trans (hb.mono (Nat.le_of_lt hwB.out))
              replace hbd2 := Lib.hid hbd2
              replace hsz2 := Lib.hid hsz2
              replace hB2 := Lib.hid hB2
              clear hb hbd hsz hBz c0 hwr
              go_wp2_with fail
              refine (hend.out _ hbd2.out hsz2.out hB2.out).mono ?_
              rintro en w3 ⟨rfl, hd⟩
              clear hbd2 hsz2 hB2
              go_wp2_with fail
              refine (hwr2.out _ hd.out.1 hd.out.2.1).mono ?_
              rintro en w4 ⟨rfl, hbd4, hb⟩
              have hsz4 := Lib.hid (Nat.le_trans hd.out.2.1 hb.size)
              have hB4 := Lib.hid (hd.out.2.2.trans (hb.mono (Nat.le_of_lt hwB.out)))
              replace hbd4 := Lib.hid hbd4
              clear hb hd hwr2 hend
              go_wp2_with fail
              go_roundw
              case rel => exact ⟨0 + 1, by go_num, by omega, hbd4.out, hsz4.out, hB4.out⟩
              case measure => simp [intOf]; omega
            · rw [if_neg e] at hk
              subst hk
              have eI : ((j : Int) == 0) = false := by rw [beq_eq_false_iff_ne]; omega
              replace hwr := Lib.hid hwr
              go_wp2_with fail
              refine (hwr.out _ hbd.out hsz.out).mono ?_
              rintro en w2 ⟨rfl, hbd2, hb⟩
              have hsz2 := Nat.le_trans hsz.out hb.size
              have hB2 := hBz.out.trans (hb.mono (Nat.le_of_lt hwB.out))
              replace hbd2 := Lib.hid hbd2
              replace hsz2 := Lib.hid hsz2
              replace hB2 := Lib.hid hB2
              clear hb hbd hsz hBz c0 hwr
              go_wp2_with fail
              refine (hend.out _ hbd2.out hsz2.out hB2.out).mono ?_
              rintro en w3 ⟨rfl, hd⟩
              clear hbd2 hsz2 hB2
              go_wp2_with fail
              refine (hwr2.out _ hd.out.1 hd.out.2.1).mono ?_
              rintro en w4 ⟨rfl, hbd4, hb⟩
              have hsz4 := Lib.hid (Nat.le_trans hd.out.2.1 hb.size)
              have hB4 := Lib.hid (hd.out.2.2.trans (hb.mono (Nat.le_of_lt hwB.out)))
              replace hbd4 := Lib.hid hbd4
              clear hb hd hwr2 hend
              go_wp2_with fail
              go_roundw
              case rel => exact ⟨j + 1, by go_num, by omega, hbd4.out, hsz4.out, hB4.out⟩
              case measure => simp [intOf]; omega
          · obtain rfl : j = n2 := by omega
            have h1I : ¬ (j : Int) < (j : Int) := by omega
            have hQ : Q.take j = Q := by rw [hq.out, List.take_length]
            rw [hQ] at hbd hl2
            have hfin : Hid (t = mkS (preW P ++ perW Q) ++ ⟨#[41]⟩ ∧ (preW P ++ perW Q).length ≤ 40000) := Lib.hid (by
              constructor
              · rw [hv.out, textL, ← mkS_append]; rfl
              · rw [List.length_append]; have := List.length_take_le j Q; rw [hQ] at this; omega)
            have hadd : ∀ W, (Op.stringOp .add (mkS (preW P ++ perW Q)) ⟨#[41]⟩).run Tryz.prog W = .ok (.string t) W := fun W => by
              have h9 := hfin.out.2
              have h8 : (mkS (preW P ++ perW Q)).size = (preW P ++ perW Q).length := mkS_size _
              rw [run_string_add_sum _ _ _ (by rw [h8]; show _ + 1 ≤ _; omega), ← hfin.out.1]
            replace hQ := Lib.hid hQ
            clear hl1 hl2 hl3 hlP
            go_wp2_with fail
            refine (bstr_l B B _ _ hbd.out hsz.out).mono ?_
            rintro en w2 ⟨rfl, hb⟩
            have hB2 := Lib.hid (hBz.out.trans (hb.mono (Nat.le_of_lt hwB.out)))
            clear hb hbd hsz hBz
            go_wp2_with fail
            go_ret2
            exact ⟨rfl, hB2.out⟩
end Go.Proofs.YtbddlbhanpjdnaaGreatDoor

namespace Go.Proofs.YtbddlbhanpjdnaaGreatDoor
open Go.RowKit Go.Sort

theorem lv_E : (0 : Int) = ofE (okA false ⟨#[1]⟩ ⟨#[7]⟩) (okA false ⟨#[1]⟩ ⟨#[7]⟩) (be (sl ⟨#[7]⟩)) 2 := by kernel_rfl
theorem lv_P : ([] : List Nat) = if (0 : Int) = 0 then ofP (be (sl ⟨#[1]⟩)) (be (sl ⟨#[7]⟩)) (be (sl ⟨#[1]⟩)) (be (sl ⟨#[7]⟩)) (2 : Int).toNat else [] := by rw [if_pos rfl]; kernel_rfl
theorem lv_Q : [1, 1, 255] = if (0 : Int) = 0 then ofQ (be (sl ⟨#[1]⟩)) (be (sl ⟨#[7]⟩)) (be (sl ⟨#[1]⟩)) (be (sl ⟨#[7]⟩)) (2 : Int).toNat else [] := by rw [if_pos rfl]; kernel_rfl
theorem lv_T : (⟨#[40, 49, 32, 49, 32, 42, 41]⟩ : ByteArray) = if mayI [] [1, 1, 255] then mkS (textL [] [1, 1, 255]) else ⟨#[]⟩ := by kernel_rfl
theorem lv_C : chkE [] [1, 1, 255] = 0 := by kernel_rfl
theorem lv_A : adrR [] [1, 1, 255] 10 = ([1, 3], true) := by kernel_rfl
theorem lv_AE : (0 : Int) = rhoE [] [1, 1, 255] 10 := by kernel_rfl
theorem lv_m : mayI [] [1, 1, 255] = true := by kernel_rfl

theorem arr_one (w : World) (g x : Nat) (hg : g = w.heap.size) : Arr (w.alloc (.cells #[.int .u8 (x : Int)] 5)) g .u8 5 [x] := by
  subst hg
  exact heap_alloc_new w _

set_option maxRecDepth 100000 in
set_option maxHeartbeats 1000000 in
theorem ratio_17 (w : World) : Calls Tryz.prog 40 #[.int .u8 1, .int .u8 7] w (RetVal (.agg #[.bool false, .string ⟨#[1]⟩, .string ⟨#[7]⟩]) w) := by
  obtain ⟨W0, hW0⟩ : ∃ W0, W0 = w.alloc (.cells #[.bool false, .string ⟨#[]⟩, .string ⟨#[]⟩] 24) := ⟨_, rfl⟩
  have hs0 : W0.heap.size = w.heap.size + 1 := by rw [hW0]; simp
  have h1 : (convert 28 22 (.slice (some ⟨w.heap.size + 1, 0, none⟩) 1 1)).run Tryz.prog (W0.alloc (.cells #[.int .u8 1] 5)) = .ok (.string ⟨#[1]⟩) (W0.alloc (.cells #[.int .u8 1] 5)) := conv_str (W0.alloc (.cells #[.int .u8 1] 5)) (w.heap.size + 1) [1] 1 (arr_one W0 _ 1 hs0.symm) (by decide) 22 Tryz.underlying22
  have h2 : (convert 28 22 (.slice (some ⟨w.heap.size + 1 + 1, 0, none⟩) 1 1)).run Tryz.prog ((W0.alloc (.cells #[.int .u8 1] 5)).alloc (.cells #[.int .u8 7] 5)) = .ok (.string ⟨#[7]⟩) ((W0.alloc (.cells #[.int .u8 1] 5)).alloc (.cells #[.int .u8 7] 5)) := conv_str ((W0.alloc (.cells #[.int .u8 1] 5)).alloc (.cells #[.int .u8 7] 5)) (w.heap.size + 1 + 1) [7] 1 (arr_one _ _ 7 (by simp [hs0])) (by decide) 22 Tryz.underlying22
  rw [hW0] at h1 h2
  clear hs0 hW0
  go_enter Tryz.func40, Tryz.ntmps40
  go_wp2_with fail
  refine bodyPost_ret (v := .agg #[.bool false, .string ⟨#[1]⟩, .string ⟨#[7]⟩]) (by simp [results, Tryz.results40, go_sem]) rfl ⟨rfl, ?_⟩
  exact (((Below.refl _ w).alloc (Nat.le_refl _) _).alloc (by simp) _).alloc (by simp; omega) _

set_option maxRecDepth 100000 in
set_option maxHeartbeats 2000000 in
theorem lives_any (w : World) : Calls Tryz.prog 13 #[] w (RetVal (.bool true) w) := by
  go_enter Tryz.func13, Tryz.ntmps13
  go_wp2_with fail
  refine (ratio_17 _).mono ?_
  rintro e w1 ⟨rfl, hb1⟩
  replace hb1 := Lib.hid hb1
  go_wp2_with fail
  refine (iKnead_any false ⟨#[1]⟩ ⟨#[7]⟩ 2 _ (by decide) (by decide) 0 lv_E [] [1, 1, 255] lv_P lv_Q).mono ?_
  rintro e w2 ⟨v1, v2, rfl, g1, g2, hb⟩
  have hb2 := hb1.out.trans (hb.mono hb1.out.size)
  have hI := Itn.of_pc g1 g2 lv_m
  obtain ⟨-, B1, rfl⟩ := g1
  obtain ⟨-, B2, rfl⟩ := g2
  have hI2 := Lib.hid (hI.alloc (.cells #[.slice B1 0 0, .slice B2 3 3] 30))
  have hb3 := Lib.hid (hb2.alloc hb2.size (.cells #[.slice B1 0 0, .slice B2 3 3] 30))
  have hk := Lib.hid (Blk.new w2 30 #[.slice B1 0 0, .slice B2 3 3])
  clear hb hb1 hb2 hI
  go_upto_region 2 with fail
  replace hI2 : Hid (Itn (w2.alloc (.cells #[.slice B1 0 0, .slice B2 3 3] 30)) (.slice B1 0 0) (.slice B2 3 3) [] [1, 1, 255]) := hI2
  generalize hW : w2.alloc (.cells #[.slice B1 0 0, .slice B2 3 3] 30) = W at hI2 hb3 hk ⊢
  generalize hg : w2.heap.size = g at hk ⊢
  clear hW hg
  have a0 : W.cell? ⟨g, 0, none⟩ = some (.slice B1 0 0) := hk.out.cell 0
  have a1 : W.cell? ⟨g, 1, none⟩ = some (.slice B2 3 3) := hk.out.cell 1
  go_wp2_with fail
  refine (iText_any _ _ [] [1, 1, 255] _ hI2.out _ lv_T).mono ?_
  rintro e w3 ⟨rfl, hb⟩
  rw [lv_C]
  have hI3 := Lib.hid (hI2.out.below hb)
  have hk3 := Lib.hid (Blk.below hk.out hb)
  have hb4 := Lib.hid (hb3.out.trans (hb.mono hb3.out.size))
  clear hb hI2 hk hb3 a0 a1
  have a0 : w3.cell? ⟨g, 0, none⟩ = some (.slice B1 0 0) := hk3.out.cell 0
  have a1 : w3.cell? ⟨g, 1, none⟩ = some (.slice B2 3 3) := hk3.out.cell 1
  go_wp2_with fail
  refine (iAddress_any _ _ [] [1, 1, 255] 10 _ hI3.out 0 lv_AE [1, 3] true lv_A).mono ?_
  rintro e w4 ⟨va, rfl, ho, hb⟩
  have hb5 := Lib.hid (hb4.out.trans (hb.mono hb4.out.size))
  obtain ⟨gl, cl, rfl⟩ : ∃ gl cl, va = .slice (some ⟨gl, 0, none⟩) 2 cl := by
    rcases own_forms ho with ⟨-, h⟩ | ⟨gl, cl, h⟩
    · simp at h
    · exact ⟨gl, cl, h⟩
  obtain ⟨g', off, e, -, hc⟩ := (rd_cells (own_rdn ho)).2.2.2 (by simp)
  injection e with e
  injection e with e1 e2
  subst e1 e2
  have c0 : w4.cell? ⟨gl, 0, none⟩ = some (.int .i64 1) := by have := hc 0 1 rfl; simpa using this
  have c1 : w4.cell? ⟨gl, 1, none⟩ = some (.int .i64 3) := by have := hc 1 3 rfl; simpa using this
  clear hb hI3 hk3 hb4 a0 a1 hc ho
  have hs : ((⟨#[40, 49, 32, 49, 32, 42, 41]⟩ : ByteArray).toList == (⟨#[40, 49, 32, 49, 32, 42, 41]⟩ : ByteArray).toList) = true := by simp
  go_wp2_with fail
  go_ret
  exact ⟨rfl, hb5.out⟩

end Go.Proofs.YtbddlbhanpjdnaaGreatDoor
