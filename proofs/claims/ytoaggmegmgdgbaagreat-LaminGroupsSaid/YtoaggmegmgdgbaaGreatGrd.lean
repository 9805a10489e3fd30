import Derived.Test.YtoaggmegmgdgbaaGreatGrdA
import Derived.Test.YtoaggmegmgdgbaaGreatGrpA
namespace Go.Proofs.YtoaggmegmgdgbaaGreat
open Go.RowKit Go.Sort Go.Maps
section
variable {α β : Type} [DecidableEq α] {κ : Nat → α} {arc : Nat → β} {n i k : Nat}
def usedL (κ : Nat → α) (n i k : Nat) : List Bool := (List.range n).map fun j => decide (κ j ∈ (repsG κ i).map κ ∨ (j < k ∧ κ j = κ i))
def grpK (κ : Nat → α) (arc : Nat → β) (i k : Nat) : List β := ((List.range k).filter fun j => decide (κ j = κ i)).map arc
def fullG (κ : Nat → α) (arc : Nat → β) (n i : Nat) : List (List β) := (repsG κ i).map fun r => grpK κ arc r n
theorem usedL_len : (usedL κ n i k).length = n := by simp [usedL]
theorem usedL_get {j : Nat} (hj : j < n) : (usedL κ n i k)[j]? = some (decide (κ j ∈ (repsG κ i).map κ ∨ (j < k ∧ κ j = κ i))) := by
  unfold usedL
  rw [List.getElem?_map, List.getElem?_range hj]; rfl
theorem usedL_ext {i' k' : Nat} (h : ∀ j, j < n → ((κ j ∈ (repsG κ i).map κ ∨ (j < k ∧ κ j = κ i)) ↔ (κ j ∈ (repsG κ i').map κ ∨ (j < k' ∧ κ j = κ i')))) : usedL κ n i k = usedL κ n i' k' :=
  List.map_congr_left fun j hj => decide_eq_decide.2 (h j (List.mem_range.1 hj))
theorem usedL_zero : usedL κ n 0 0 = List.replicate n false := by
  refine List.ext_getElem? fun j => ?_
  rcases Nat.lt_or_ge j n with h | h
  · rw [usedL_get h, List.getElem?_replicate, if_pos h]
    simp [repsG]
  · rw [List.getElem?_eq_none (by rw [usedL_len]; exact h), List.getElem?_eq_none (by simpa using h)]
theorem usedL_ii : usedL κ n i i = usedL κ n i 0 := usedL_ext fun j _ => ⟨fun h => .inl (h.elim id fun h => repsG_mem i j h.1), fun h => h.elim .inl fun h => absurd h.1 (Nat.not_lt_zero _)⟩
theorem repsG_new (h : κ i ∉ (repsG κ i).map κ) : repsG κ (i + 1) = repsG κ i ++ [i] := by
  rw [repsG, if_neg h]
theorem repsG_same (h : κ i ∈ (repsG κ i).map κ) : repsG κ (i + 1) = repsG κ i := by
  rw [repsG, if_pos h]
theorem usedL_next (h : κ i ∉ (repsG κ i).map κ) : usedL κ n i n = usedL κ n (i + 1) 0 := usedL_ext fun j hj => by
  rw [repsG_new h, List.map_append, List.mem_append]
  simp [hj]
theorem usedL_same (h : κ i ∈ (repsG κ i).map κ) : usedL κ n (i + 1) 0 = usedL κ n i 0 := usedL_ext fun j _ => by
  rw [repsG_same h]; simp
theorem usedL_skip (he : κ k ≠ κ i) : usedL κ n i (k + 1) = usedL κ n i k := usedL_ext fun j _ => by
  constructor
  · rintro (h | ⟨h1, h2⟩)
    · exact .inl h
    · refine .inr ⟨?_, h2⟩
      have : j ≠ k := fun e => he (by rw [← e]; exact h2)
      omega
  · rintro (h | ⟨h1, h2⟩)
    · exact .inl h
    · exact .inr ⟨by omega, h2⟩
theorem usedL_set (he : κ k = κ i) : (usedL κ n i k).set k true = usedL κ n i (k + 1) := by
  refine List.ext_getElem? fun j => ?_
  rcases Nat.lt_or_ge j n with h | h
  · by_cases hjk : k = j
    · subst hjk
      rw [List.getElem?_set_self (by rw [usedL_len]; exact h), usedL_get h]
      simp [he]
    · rw [List.getElem?_set_ne hjk, usedL_get h, usedL_get h]
      congr 1
      exact decide_eq_decide.2 ⟨fun h => h.imp id fun h => ⟨by omega, h.2⟩, fun h => h.imp id fun h => ⟨by omega, h.2⟩⟩
  · rw [List.getElem?_eq_none (by rw [List.length_set, usedL_len]; exact h), List.getElem?_eq_none (by rw [usedL_len]; exact h)]
theorem grpK_zero (h : κ i ∉ (repsG κ i).map κ) : grpK κ arc i i = [] := by
  unfold grpK
  rw [List.map_eq_nil_iff, List.filter_eq_nil_iff]
  intro j hj e
  refine h ?_
  rw [← of_decide_eq_true e]
  exact repsG_mem i j (List.mem_range.1 hj)
theorem grpK_step (he : κ k = κ i) : grpK κ arc i (k + 1) = grpK κ arc i k ++ [arc k] := by
  unfold grpK
  rw [List.range_succ, List.filter_append, List.map_append, List.filter_cons_of_pos (by simpa using he)]; rfl
theorem grpK_skip (he : κ k ≠ κ i) : grpK κ arc i (k + 1) = grpK κ arc i k := by
  unfold grpK
  rw [List.range_succ, List.filter_append, List.map_append, List.filter_cons_of_neg (by simpa using he)]; simp
theorem grpK_len : (grpK κ arc i k).length ≤ k := by
  unfold grpK
  rw [List.length_map]
  have := List.length_filter_le (fun j => decide (κ j = κ i)) (List.range k)
  rw [List.length_range] at this
  exact this
theorem fullG_new (h : κ i ∉ (repsG κ i).map κ) : fullG κ arc n (i + 1) = fullG κ arc n i ++ [grpK κ arc i n] := by
  unfold fullG
  rw [repsG_new h, List.map_append]; rfl
theorem fullG_same (h : κ i ∈ (repsG κ i).map κ) : fullG κ arc n (i + 1) = fullG κ arc n i := by
  unfold fullG
  rw [repsG_same h]
theorem fullG_len : (fullG κ arc n i).length ≤ i := by
  unfold fullG
  rw [List.length_map]
  exact repsG_len i
end
theorem NestR.mono {α : Type} [Inhabited α] {W : World} {B B' : Nat} {oe e : TypeId} {size : Nat} {enc : α → List Value} {u : Value} {us : List Value} {G : List (List α)} (h : NestR W B oe e size enc u us G) (hb : B' ≤ B) : NestR W B' oe e size enc u us G := ⟨h.len, row_mono h.row hb, fun i hi => row_mono (h.inn i hi) hb⟩
theorem info_sA : (Tryz.prog.info? 31).map (fun i => (i.zero, i.size, i.bytes)) = some (some (.slice none 0 0), 1, 24) := by kernel_rfl
theorem info_itn : (Tryz.prog.info? 120).map (fun i => (i.zero, i.size, i.bytes)) = some (some (.agg #[.slice none 0 0, .slice none 0 0]), 2, 48) := by kernel_rfl
theorem info_bool : (Tryz.prog.info? 4).map (fun i => (i.zero, i.size, i.bytes)) = some (some (.bool false), 1, 1) := by kernel_rfl
def ubs (l : List Bool) : Array Value := (l.map Value.bool).toArray
theorem make_bool (n : Nat) (hn : n ≤ 4294967296) (w : World) :
    (Instr.makeSlice 179 (.int .i64 (n : Int)) (.int .i64 (n : Int))).run Tryz.prog w = .ok (.slice (some ⟨w.heap.size, 0, none⟩) n n) (w.alloc (.cells (ubs (List.replicate n false)) 4)) := by
  obtain ⟨i, hi, hz0, hz1, hz2⟩ := info_parts info_bool
  have h1 : (i.bytes : Int) * (n : Int) ≤ 281474976710656 := by rw [hz2]; omega
  have hr := run_make (P := Tryz.prog) w 179 4 i _ Tryz.underlying179 hi hz0 .i64 .i64 n n (by omega) (Int.le_refl _) h1 (by omega)
  simp only [Int.toNat_natCast, hz1, Nat.mul_one] at hr
  have e : madeCells (Value.bool false).cells n = ubs (List.replicate n false) := by
    apply Array.ext'
    rw [show (Value.bool false).cells = #[Value.bool false] from rfl, toList_madeCells_one]
    simp [ubs]
  rw [hr, e]
theorem ubs_cell {W : World} {g : Nat} {l : List Bool} {j : Nat} {b : Bool} (h : Blk W g 4 (ubs l)) (hj : l[j]? = some b) : W.cell? ⟨g, j, none⟩ = some (.bool b) := by
  rw [h.cell]
  unfold ubs
  rw [List.getElem?_toArray, List.getElem?_map, hj]; rfl
theorem ubs_set {W : World} {g : Nat} {l : List Bool} (h : Blk W g 4 (ubs l)) (j : Nat) (b : Bool) : Blk (W.setCell ⟨g, j, none⟩ (.bool b)) g 4 (ubs (l.set j b)) := by
  have h1 := h.set_ j (.bool b)
  have e : (ubs l).setIfInBounds j (.bool b) = ubs (l.set j b) := by
    unfold ubs
    rw [List.setIfInBounds_toArray, List.map_set]
  rw [e] at h1
  exact h1
theorem i_one {A1 A2 : Option Addr} {m1 c1 m2 c2 : Nat} : ∀ u ∈ [Value.slice A1 m1 c1, Value.slice A2 m2 c2], u.oneCell' = true := fun u hu => by
  rcases List.mem_cons.1 hu with rfl | hu
  · rfl
  · rw [List.mem_singleton.1 hu]; rfl
theorem i_news {W : World} {v1 v2 : Value} : ∀ (j : Nat) (u : Value), [v1, v2][j]? = some u → (W.alloc (.cells #[v1, v2] 120)).cell? ((⟨W.heap.size, 0, none⟩ : Addr).add j) = some u := news_new W 120 [v1, v2]
theorem first_at {ps : List PT} {p : PT} (h : p ∈ ps) : ∃ j, j < ps.length ∧ ps[j]! = p ∧ ∀ i, i < j → ps[i]! ≠ p := by
  induction ps with
  | nil => cases h
  | cons a l ih =>
    by_cases ha : a = p
    · exact ⟨0, Nat.succ_pos _, ha, fun i hi => absurd hi (Nat.not_lt_zero _)⟩
    · obtain ⟨j, hj, h1, h2⟩ := ih ((List.mem_cons.1 h).resolve_left (fun e => ha e.symm))
      refine ⟨j + 1, Nat.succ_lt_succ hj, by simpa using h1, fun i hi => ?_⟩
      rcases i with _ | i
      · simpa using ha
      · have := h2 i (by omega)
        simpa using this
theorem keep_setG {W : World} {a : Addr} {v u0 u1 : Value} {g : Nat} (h : W.cell? a = some v) (hne : a.block ≠ g) : ((W.setCell ⟨g, 0, none⟩ u0).setCell ⟨g, 1, none⟩ u1).cell? a = some v := by
  rw [World.cell?_setCell_other _ _ _ _ (fun e => hne (by rw [← e])), World.cell?_setCell_other _ _ _ _ (fun e => hne (by rw [← e]))]
  exact h
theorem pf_setG {W : World} {B g : Nat} {v u0 u1 : Value} {l : List Nat} (h : Pf W B v l) (hg : g < B) : Pf ((W.setCell ⟨g, 0, none⟩ u0).setCell ⟨g, 1, none⟩ u1) B v l :=
  h.keep fun k hk _ => (Below.heap_setCell _ ⟨g, 1, none⟩ u1 k (show k ≠ g by omega)).trans (Below.heap_setCell W ⟨g, 0, none⟩ u0 k (show k ≠ g by omega))
set_option maxRecDepth 100000 in
set_option maxHeartbeats 16000000 in
theorem lgrouped_any (v : Value) (Ls : List RawQ) (n1 : Bool) (a1 d1 : ByteArray) (d : Int) (w : World) (hv : RdK 3 encQ w v Ls) (hz : ∀ r, r ∈ Ls → szQ r) (z1 : a1.size ≤ 9223372036854775807) (y1 : d1.size ≤ 9223372036854775807) (hlen : Ls.length ≤ 4096) :
    Calls Tryz.prog 56 #[.agg #[.bool n1, .string a1, .string d1], .int .i64 d, v] w (fun e w' =>
      (errG (okA n1 a1 d1) d Ls = 0 ∧ ∃ v' vs, e = .returned (.tuple #[v', .int .i64 0]) ∧ NestR w' w.heap.size 31 42 2 enc2 v' vs (grpE (rowK (be (sl a1)) (be (sl d1)) d.toNat) (riseL (angQ Ls))) ∧ Below w.heap.size w w') ∨
      (errG (okA n1 a1 d1) d Ls ≠ 0 ∧ e = .returned (.tuple #[.slice none 0 0, .int .i64 (errG (okA n1 a1 d1) d Ls)]) ∧ Below w.heap.size w w')) := by
  obtain ⟨rk, hrk⟩ : ∃ r, r = rowK (be (sl a1)) (be (sl d1)) d.toNat := ⟨_, rfl⟩
  obtain ⟨b1, hb1⟩ : ∃ b, b = okA n1 a1 d1 := ⟨_, rfl⟩
  rw [← hb1, ← hrk]
  have cOf : Hid (∀ (r : RawQ) (W : World), szQ r → Calls Tryz.prog 58 #[.agg #[.bool n1, .string a1, .string d1], .agg #[.bool r.1, .string r.2.1, .string r.2.2], .int .i64 d] W (RetRowE (if errR b1 d r = 0 then (rk (be (sl r.2.1), be (sl r.2.2))).1 else []) (if errR b1 d r = 0 then (rk (be (sl r.2.1), be (sl r.2.2))).2 else []) (errR b1 d r) W)) := Lib.hid (fun r W hr => iOf_any n1 a1 d1 r.1 r.2.1 r.2.2 d W z1 y1 hr.1 hr.2 _ (by rw [hb1]; rfl) _ _ (by rw [hrk]; rfl) (by rw [hrk]; rfl))
  have hmay : Hid (∀ r : RawQ, errR b1 d r = 0 → okA r.1 r.2.1 r.2.2 = true ∧ mayI (rk (be (sl r.2.1), be (sl r.2.2))).1 (rk (be (sl r.2.1), be (sl r.2.2))).2 = true) := Lib.hid (fun r hr => by
    obtain ⟨-, k2, k3, k4, k5⟩ := ofE_ok hr
    have hp := (Ang.of_ok k2).1.2.1
    rw [hrk]
    exact ⟨k2, rowK_sizes (by omega) (by omega) (by simp only at hp ⊢; omega) k5⟩)
  have hRd := Lib.hid (fun W (hb : Below w.heap.size w W) => RdK.below hv hb)
  obtain ⟨A, c, rfl, hA⟩ := hv
  obtain ⟨n, hn⟩ : ∃ n, n = Ls.length := ⟨_, rfl⟩
  have hszr : Hid (∀ i, i < n → szQ Ls[i]!) := Lib.hid (fun i hi => hz _ (getBang_memP (by omega)))
  have hcel : Hid (0 < n → ∃ g o, A = some ⟨g, o, none⟩ ∧ ∀ W, Below w.heap.size w W → ∀ i, i < n → ∀ (j : Nat) (u : Value), (encQ Ls[i]!)[j]? = some u → W.cell? ⟨g, o + i * 3 + j, none⟩ = some u) := Lib.hid (fun h0 => by
    obtain ⟨g, o, hA1, hA2⟩ := hA (by omega)
    refine ⟨g, o, hA1, fun W hb i hi j u hu => ?_⟩
    have h1 := hA2 i (by omega) j u hu
    rw [hb.cell (block_lt_of_cell h1)]
    exact h1)
  rw [← hn] at hlen ⊢
  obtain ⟨EG, hEG⟩ : ∃ e, e = errG b1 d Ls := ⟨_, rfl⟩
  rw [← hEG]
  obtain ⟨RG, hRG⟩ : ∃ g, g = grpE rk (riseL (angQ Ls)) := ⟨_, rfl⟩
  rw [← hRG]
  replace hRG := Lib.hid hRG
  replace hEG := Lib.hid hEG
  replace hn := Lib.hid hn
  replace hrk := Lib.hid hrk
  replace hb1 := Lib.hid hb1
  obtain ⟨ia, ha0, ha1, ha2, ha3⟩ := info_parts info_ang2
  obtain ⟨ii, hi0, hi1, hi2, hi3⟩ := info_parts info_itn
  obtain ⟨is, hs0, hs1, hs2, hs3⟩ := info_parts info_sA
  clear hA hz
  have hG0 : Hid (GrS (((w.alloc (.cells #[.bool n1, .string a1, .string d1] 26)).alloc (.cells #[.slice none 0 0] 178)).alloc (.cells #[.slice none 0 0] 31)) w.heap.size (w.heap.size + 1) (w.heap.size + 1 + 1) #[.bool n1, .string a1, .string d1] (.slice none 0 0) (.slice none 0 0) [] [] rk) := Lib.hid ⟨((Blk.new w 26 #[.bool n1, .string a1, .string d1]).alloc (.cells #[.slice none 0 0] 178)).alloc (.cells #[.slice none 0 0] 31), (show Blk ((w.alloc (.cells #[.bool n1, .string a1, .string d1] 26)).alloc (.cells #[.slice none 0 0] 178)) (w.heap.size + 1) 178 #[.slice none 0 0] from (by have h := Blk.new (w.alloc (.cells #[.bool n1, .string a1, .string d1] 26)) 178 #[.slice none 0 0]; rwa [World.size_alloc] at h)).alloc (.cells #[.slice none 0 0] 31), (by have h := Blk.new ((w.alloc (.cells #[.bool n1, .string a1, .string d1] 26)).alloc (.cells #[.slice none 0 0] 178)) 31 #[.slice none 0 0]; rwa [World.size_alloc, World.size_alloc] at h), World.ownsRow_nil _ _ _ _, World.ownsRow_nil _ _ _ _, fun j hj => absurd hj (Nat.not_lt_zero _)⟩
  have hB := Lib.hid (show Below w.heap.size w (((w.alloc (.cells #[.bool n1, .string a1, .string d1] 26)).alloc (.cells #[.slice none 0 0] 178)).alloc (.cells #[.slice none 0 0] 31)) from (((Below.refl _ w).alloc (Nat.le_refl _) _).alloc (by simp) _).alloc (by simp; omega) _)
  go_enter Tryz.func56, Tryz.ntmps56
  go_upto_region 3 with fail
  generalize hW : (((w.alloc (.cells #[.bool n1, .string a1, .string d1] 26)).alloc (.cells #[.slice none 0 0] 178)).alloc (.cells #[.slice none 0 0] 31)) = w1 at hG0 hB ⊢
  have h9B : w.heap.size ≤ w.heap.size + 1 + 1 := by omega
  have h8B : w.heap.size ≤ w.heap.size + 1 := by omega
  generalize hg9 : w.heap.size + 1 + 1 = g9 at hG0 h9B ⊢
  generalize hg8 : w.heap.size + 1 = g8 at hG0 h8B ⊢
  replace h9B := Lib.hid h9B
  replace h8B := Lib.hid h8B
  clear hW hg8 hg9
  go_wp2_with fail
  go_loopg [10] n (fun kx s10 wr => ∃ (i : Nat) (vr va : Value) (ir : List (Value × Value)), s10 = .int .i64 (i : Int) ∧ i ≤ n ∧ n - i ≤ kx ∧ Hid (ir.length = i) ∧ Hid (GrS wr w.heap.size g8 g9 #[.bool n1, .string a1, .string d1] vr va ir (angQ (Ls.take i)) rk) ∧ Hid (∀ j, j < i → errR b1 d Ls[j]! = 0) ∧ Hid (Below w.heap.size w wr))
  case atStart => exact ⟨0, _, _, [], rfl, Nat.zero_le _, Nat.le_refl _, Lib.hid rfl, hG0, Lib.hid (fun j hj => absurd hj (Nat.not_lt_zero _)), hB⟩
  case round =>
    clear hG0 hB
    obtain ⟨i, vr, va, ir, rfl, hin, hg, hir, hG, hE0, hB⟩ := hrel
    by_cases hlt : i < n
    case neg =>
      obtain rfl : n = i := by omega
      have hte : Ls.take n = Ls := List.take_of_length_le (by rw [← hn.out]; exact Nat.le_refl _)
      rw [hte] at hG
      have hEG0 : Hid (EG = 0) := Lib.hid (by rw [hEG.out]; exact errG_no (by rw [← hn.out]; exact hE0.out))
      obtain ⟨ps, hps⟩ : ∃ p, p = angQ Ls := ⟨_, rfl⟩
      have hpm : ∀ p, p ∈ ps → ∃ r, p = (be (sl r.2.1), be (sl r.2.2)) ∧ errR b1 d r = 0 := fun p hp => by
        rw [hps] at hp
        obtain ⟨r, hr, rfl⟩ := List.mem_map.1 hp
        refine ⟨r, rfl, ?_⟩
        obtain ⟨j, hj, rfl⟩ := List.mem_iff_getElem.1 hr
        have h := hE0.out j (by rw [hn.out]; exact hj)
        rwa [getElem!_pos Ls j hj] at h
      have hAng : ∀ p, p ∈ ps → Ang p := fun p hp => by
        obtain ⟨r, rfl, hr⟩ := hpm p hp
        exact (Ang.of_ok (hmay.out r hr).1).1
      have hSym : Hid (∀ p, p ∈ ps → (∀ x, x ∈ (rk p).1 → x < 256) ∧ (∀ x, x ∈ (rk p).2 → x < 256)) := Lib.hid (fun p hp => by
        obtain ⟨r, rfl, hr⟩ := hpm p hp
        obtain ⟨-, -, m1, m2⟩ := mayI_spec (hmay.out r hr).2
        exact ⟨fun x hx => (symB_facts (m1 x hx)).1, fun x hx => (symB_facts (m2 x hx)).1⟩)
      have hpl : ps.length = n := by rw [hps, angQ_len, ← hn.out]
      rw [← hps] at hG
      have cRis := Lib.hid (rrising_any w.heap.size va ps wr hG.out.all hAng (by omega))
      have hEm : Hid (∀ p, p ∈ riseL ps → p ∈ ps) := Lib.hid (fun p hp => riseL_mem.1 hp)
      have hEn : (riseL ps).length ≤ n := by have := riseL_len ps; omega
      obtain ⟨E, hEd⟩ : ∃ E, E = riseL ps := ⟨_, rfl⟩
      rw [← hEd] at cRis hEm hEn
      have hres : Hid (fullG (fun k => rk E[k]!) (fun k => E[k]!) E.length E.length = RG) := Lib.hid (by rw [hRG.out, ← hps, ← hEd]; rfl)
      clear hEd
      have hall := hG.out.all
      rw [hpl] at hall
      obtain ⟨Aa, ca, rfl, -, -⟩ := own_form hall
      have c9 : wr.cell? ⟨g9, 0, none⟩ = some (.slice Aa n ca) := hG.out.b9.cell 0
      obtain ⟨nE, hnE⟩ : ∃ n, n = E.length := ⟨_, rfl⟩
      rw [← hnE] at hEn hres
      have hil : Hid (ir.length = ps.length) := Lib.hid (by rw [hir.out, hpl])
      have hpl8 : Hid (ps.length ≤ 8192) := Lib.hid (by omega)
      replace hpl := Lib.hid hpl
      replace hps := Lib.hid hps
      replace hte := Lib.hid hte
      clear hall hpm hAng hir hE0 cOf hmay hcel hszr hRd
      go_wp2_with fail
      refine cRis.out.mono ?_
      rintro en w2 ⟨vE, rfl, hE, hb⟩
      replace hG := Lib.hid (hG.out.below hb)
      replace hB := Lib.hid (hB.out.trans (hb.mono hB.out.size))
      have hER : Hid (w2.ownsRow wr.heap.size 42 2 vE nE (E.flatMap enc2)) := Lib.hid (by have h : w2.ownsRow wr.heap.size 42 2 vE E.length (E.flatMap enc2) := hE; rw [← hnE] at h; exact h)
      obtain ⟨AE, cE, rfl, -, hAE⟩ := own_form hER.out
      have hmk := make_bool nE (by omega)
      clear hb hE cRis c9
      replace hnE := Lib.hid hnE
      replace hAE := Lib.hid hAE
      go_upto_region 17 with fail
      have hAl : Hid (Below w2.heap.size w2 (w2.alloc (.cells (ubs (List.replicate nE false)) 4))) := Lib.hid ((Below.refl w2.heap.size w2).alloc (Nat.le_refl _) (.cells (ubs (List.replicate nE false)) 4))
      have kU := Lib.hid (Blk.new w2 4 (ubs (List.replicate nE false)))
      have hBU : w.heap.size ≤ w2.heap.size := hB.out.size
      generalize hW : w2.alloc (.cells (ubs (List.replicate nE false)) 4) = wL at hAl kU ⊢
      generalize hgU : w2.heap.size = gU at hAl kU hBU ⊢
      have hK : Hid (∀ W, Below gU wL W → GrS W w.heap.size g8 g9 #[.bool n1, .string a1, .string d1] vr (.slice Aa n ca) ir ps rk) := Lib.hid (fun W hb => hG.out.below (by rw [hgU]; exact hAl.out.trans hb))
      have hEc : Hid (∀ W, Below gU wL W → W.ownsRow wr.heap.size 42 2 (.slice AE nE cE) nE (E.flatMap enc2)) := Lib.hid (fun W hb => row_but hER.out (But.of_below (r := fun _ => False) (by rw [hgU]; exact hAl.out.trans hb)) (fun _ _ h => h))
      have hBL : Hid (∀ W, Below gU wL W → Below w.heap.size w W) := Lib.hid (fun W hb => hB.out.trans ((hAl.out.trans hb).mono hBU))
      have hUL : gU ≤ wL.heap.size := by have := kU.out.lt; omega
      have hUL2 := kU.out.lt
      clear hW hgU hG hER hB hAl hmk
      have hRow : Hid (∀ i, i < nE → ∃ A1 m1 e1 A2 m2 e2, (∀ W, Below gU wL W → Calls Tryz.prog 98 #[.agg #[.int .u64 (E[i]!.1 : Int), .int .u64 (E[i]!.2 : Int)], .pointer (some ⟨g9, 0, none⟩), .pointer (some ⟨g8, 0, none⟩)] W (RetVal (.agg #[.slice A1 m1 e1, .slice A2 m2 e2]) W)) ∧ ∀ W, Below gU wL W → ∃ b, Pf W b (.slice A1 m1 e1) (rk E[i]!).1 ∧ Pf W b (.slice A2 m2 e2) (rk E[i]!).2) := Lib.hid (fun i hi => by
        have hm : E[i]! ∈ ps := hEm.out _ (getBang_memP (by rw [← hnE.out]; exact hi))
        obtain ⟨j, hj, hp, hf⟩ := first_at hm
        have hj2 : j < ir.length := by rw [hil.out]; exact hj
        obtain ⟨b, k1, k2⟩ := (hK.out wL (Below.refl _ _)).pf j hj2
        obtain ⟨A1, e1, h1, -⟩ := k1.form
        obtain ⟨A2, e2, h2, -⟩ := k2.form
        rw [hp] at h1 h2
        refine ⟨A1, (rk E[i]!).1.length, e1, A2, (rk E[i]!).2.length, e2, fun W hb => ?_, fun W hb => ?_⟩
        · have h := lrow_any _ _ _ _ _ _ _ _ _ W (hK.out W hb) hil.out hpl8.out E[i]! j hj hp hf
          rw [h1, h2] at h
          exact h
        · obtain ⟨b, k1, k2⟩ := (hK.out W hb).pf j hj2
          rw [h1, hp] at k1
          rw [h2, hp] at k2
          exact ⟨b, k1, k2⟩)
      obtain ⟨κ, hκ⟩ : ∃ κ : Nat → List Nat × List Nat, κ = fun k => rk E[k]! := ⟨_, rfl⟩
      obtain ⟨arc, harc⟩ : ∃ κ : Nat → PT, κ = fun k => E[k]! := ⟨_, rfl⟩
      rw [← hκ, ← harc] at hres
      have hD := Lib.hid (Below.refl gU wL)
      have hS0 : Hid (NestP wL gU 31 42 2 enc2 [itBlk gU 4 (ubs (usedL κ nE 0 0))] (.slice none 0 0) [] (fullG κ arc nE 0)) := Lib.hid (by
        rw [usedL_zero]
        refine ⟨rfl, ?_⟩
        show Sep wL ([itBlk gU 4 (ubs (List.replicate nE false))] ++ itRow gU 31 1 (.slice none 0 0) 0 [] :: [])
        refine Sep.cons (Sep.cons ⟨fun _ h => (List.not_mem_nil h).elim, List.Pairwise.nil⟩ (World.ownsRow_nil _ _ _ _) (fun _ h => (List.not_mem_nil h).elim)) kU.out (fun x hx => ?_)
        rw [List.mem_singleton.1 hx]
        intro k h1 h2
        cases h2)
      have hE8 : nE ≤ 4096 := by omega
      replace hκ := Lib.hid hκ
      replace harc := Lib.hid harc
      clear kU
      go_wp2_with fail
      go_loopg [19, 15] nE (fun kx s19 s15 wr => ∃ (i : Nat) (vO : Value) (vs : List Value), s19 = .int .i64 (i : Int) ∧ vO = s15 ∧ i ≤ nE ∧ nE - i ≤ kx ∧ Hid (NestP wr gU 31 42 2 enc2 [itBlk gU 4 (ubs (usedL κ nE i 0))] vO vs (fullG κ arc nE i)) ∧ Hid (Below gU wL wr))
      case atStart => exact ⟨0, _, [], rfl, rfl, Nat.zero_le _, Nat.le_refl _, hS0, hD⟩
      case round =>
        clear hS0 hD
        obtain ⟨i, vO, vs, rfl, rfl, hin2, hg2, hS, hD⟩ := hrel
        by_cases hlt2 : i < nE
        case neg =>
          obtain rfl : nE = i := by omega
          rw [hres.out] at hS
          obtain ⟨Ao, co, hvo, -, -⟩ := own_form hS.out.row
          have hvs : Hid (vO = .slice Ao vs.length co) := Lib.hid hvo
          clear hvo
          go_wp2_with fail
          go_ret2
          exact .inl ⟨hEG0.out, _, vs, rfl, hS.out.reads.mono hBU, hBL.out _ hD.out⟩
        case pos =>
          obtain ⟨gE, hgE⟩ := hAE.out (by omega)
          subst hgE
          have hBk : Blk wr gU 4 (ubs (usedL κ nE i 0)) := hS.out.2.get (a := itBlk gU 4 (ubs (usedL κ nE i 0))) (by simp)
          have hiz : (i : Int) < (nE : Int) := by omega
          have hiz0 : (0 : Int) ≤ (i : Int) := by omega
          have hwi2 : Hid (IntKind.i64.wrap ((i : Int) + 1) = (i : Int) + 1) := Lib.hid (by rw [IntKind.wrap_i64]; omega)
          by_cases hu : κ i ∈ (repsG κ i).map κ
          case pos =>
            have u0 : wr.cell? ⟨gU, i, none⟩ = some (.bool true) := ubs_cell hBk (by rw [usedL_get hlt2]; simp [hu])
            have hS2 : Hid (NestP wr gU 31 42 2 enc2 [itBlk gU 4 (ubs (usedL κ nE (i + 1) 0))] vO vs (fullG κ arc nE (i + 1))) := Lib.hid (by rw [usedL_same hu, fullG_same hu]; exact hS.out)
            have hwi := hwi2.out
            replace hu := Lib.hid hu
            clear hBk hS
            go_wp2_with fail
            go_roundg (nE - (i + 1))
            case measure => omega
            case rel => exact ⟨i + 1, _, vs, by simp, rfl, by omega, Nat.le_refl _, hS2, hD⟩
          case neg =>
            have u0 : wr.cell? ⟨gU, i, none⟩ = some (.bool false) := ubs_cell hBk (by rw [usedL_get hlt2]; simp [hu])
            have hX0 : Hid (NestP wr gU 31 42 2 enc2 [itBlk gU 4 (ubs (usedL κ nE i i)), itRow gU 42 2 (.slice none 0 0) (grpK κ arc i i).length ((grpK κ arc i i).flatMap enc2)] vO vs (fullG κ arc nE i)) := Lib.hid (by
              rw [usedL_ii, grpK_zero hu]
              exact hS.out.addNew (a := itRow gU 42 2 (.slice none 0 0) 0 []) (gb_bel (Below.refl _ wr)) (World.ownsRow_nil _ _ _ _) (fun q hq => by cases hq))
            obtain ⟨A1, m1, e1, A2, m2, e2, cI0, hPi⟩ := hRow.out i hlt2
            replace cI0 := Lib.hid cI0
            replace hPi := Lib.hid hPi
            replace hu := Lib.hid hu
            clear hBk hS
            go_wp2_with fail
            go_loopg [21, 20] nE (fun kx s21 s20 wr => ∃ (k : Nat) (vg : Value), s21 = .int .i64 (k : Int) ∧ vg = s20 ∧ i ≤ k ∧ k ≤ nE ∧ nE - k ≤ kx ∧ Hid (NestP wr gU 31 42 2 enc2 [itBlk gU 4 (ubs (usedL κ nE i k)), itRow gU 42 2 vg (grpK κ arc i k).length ((grpK κ arc i k).flatMap enc2)] vO vs (fullG κ arc nE i)) ∧ Hid (Below gU wL wr))
            case atStart => exact ⟨i, _, rfl, rfl, Nat.le_refl _, hin2, by omega, hX0, hD⟩
            case round =>
              clear hX0 hD
              obtain ⟨k, vg, rfl, rfl, hik, hkn, hgk2, hS, hD⟩ := hrel
              by_cases hlk : k < nE
              case neg =>
                obtain rfl : nE = k := by omega
                obtain ⟨gi, hgi⟩ : ∃ g, g = grpK κ arc i nE := ⟨_, rfl⟩
                obtain ⟨ng, hng⟩ : ∃ m, m = gi.length := ⟨_, rfl⟩
                have hnl : ng ≤ 4096 := by rw [hng, hgi]; exact Nat.le_trans grpK_len hE8
                rw [← hgi] at hS
                have hrg : wr.ownsRow gU 42 2 vg gi.length (gi.flatMap enc2) := hS.out.2.get (a := itRow gU 42 2 vg gi.length (gi.flatMap enc2)) (by simp)
                obtain ⟨Ag, cg, rfl, -, -⟩ := own_form hrg
                obtain ⟨no, hno⟩ : ∃ m, m = vs.length := ⟨_, rfl⟩
                have hro := hS.out.row
                have hnol : no ≤ 4096 := by rw [hno, hS.out.1]; exact Nat.le_trans fullG_len (by omega)
                obtain ⟨Ao, co, rfl, -, -⟩ := own_form hro
                have hS' := Lib.hid hS.out
                rw [← hng] at hS' ⊢
                rw [← hno] at hro hS' ⊢
                have hro2 := Lib.hid hro
                replace hgi := Lib.hid hgi
                replace hng := Lib.hid hng
                replace hno := Lib.hid hno
                have hwi := hwi2.out
                have hDs := hD.out.size
                clear hro hrg hS
                go_wp2_with (at_builtin; refine wpList_append_own_at _ rfl _ _ 112 rfl gU 31 is (.slice none 0 0) 1 24 Tryz.underlying112 hs0 hs1 hs2 hs3 rfl (by decide) _ _ _ rfl (hro2.out.alloc _) ⟨wr.heap.size, 0, none⟩ 1 1 [.slice Ag ng cg] rfl rfl (news_new wr 31 [.slice Ag ng cg]) (fun u hu => by rw [List.mem_singleton.1 hu]; rfl) (by unfold maxLen; omega) (by omega) (by simp; omega) ?_)
                intro v8 w8 hown8 hgrow8 _ hloc8
                have hB8 : Hid (Below gU wL w8) := Lib.hid ((hD.out.alloc (by omega) (.cells #[.slice Ag ng cg] 31)).grown hgrow8 (by simp; omega) (fun q hq => (World.ownsRow.lt hro2.out q hq).1))
                have hN8 : Hid (NestP w8 gU 31 42 2 enc2 [itBlk gU 4 (ubs (usedL κ nE (i + 1) 0))] v8 (vs ++ [.slice Ag ng cg]) (fullG κ arc nE (i + 1))) := Lib.hid (by
                  have h1 := hS'.out
                  rw [show (.slice Ag ng cg : Value) = .slice Ag gi.length cg by rw [hng.out]] at h1
                  rw [hng.out] at h1
                  have h2 := (NestP.alloc (X := [itBlk gU 4 (ubs (usedL κ nE i nE))] ++ [itRow gU 42 2 (.slice Ag gi.length cg) gi.length (gi.flatMap enc2)]) h1 (.cells #[.slice Ag ng cg] 31)).pushR hgrow8 (by rw [← hno.out, ← hng.out]; exact hown8) (by rw [World.size_alloc]; exact hloc8)
                  rw [usedL_next hu.out] at h2
                  rw [fullG_new hu.out, ← hgi.out, hng.out]
                  exact h2)
                clear hown8 hgrow8 hloc8 hS' hro2
                go_wp2_with fail
                go_roundg (nE - (i + 1))
                case measure => omega
                case rel => exact ⟨i + 1, _, _, by simp, rfl, by omega, Nat.le_refl _, hN8, hB8⟩
              case pos =>
                obtain ⟨B1, m3, e3, B2, m4, e4, cK0, hPk⟩ := hRow.out k hlk
                replace cK0 := Lib.hid cK0
                have hbg : ∀ d os, Below gU wL (grow (redrawn wr d) os) := fun d os => hD.out.trans ((below_regrown wr d os).mono (Nat.le_trans hUL hD.out.size))
                have hcE : ∀ q, q < nE → ∀ (j : Nat) (u : Value), (enc2 E[q]!)[j]? = some u → wr.cell? ⟨gE, q * 2 + j, none⟩ = some u := fun q hq j u hu2 => by
                  have h := hEc.out wr hD.out
                  have hql : q < E.length := by rw [← hnE.out]; exact hq
                  have hj : j < 2 := (List.getElem?_eq_some_iff.1 hu2).1
                  have e := flatMap_get enc2 2 (fun _ => rfl) E q j hql hj
                  rw [← getElem!_pos E q hql, hu2] at e
                  rw [World.ownsRow.cellAt h _ (by omega)]
                  exact e
                obtain ⟨pk, hpk⟩ : ∃ p, p = E[k]! := ⟨_, rfl⟩
                obtain ⟨pi, hpi⟩ : ∃ p, p = E[i]! := ⟨_, rfl⟩
                have hCk := hcE k hlk
                have hCi := hcE i hlt2
                rw [← hpk] at hCk hPk cK0
                rw [← hpi] at hCi
                have hPi2 := hPi.out
                have cI1 := cI0.out
                rw [← hpi] at hPi2 cI1
                have hsk := hSym.out pk (by rw [hpk]; exact hEm.out _ (getBang_memP (by rw [← hnE.out]; exact hlk)))
                have hsi := hSym.out pi (by rw [hpi]; exact hEm.out _ (getBang_memP (by rw [← hnE.out]; exact hlt2)))
                have hκk : κ k = rk pk := by rw [hκ.out, hpk]
                have hκi : κ i = rk pi := by rw [hκ.out, hpi]
                have cK : ∀ d os, Calls Tryz.prog 98 #[.agg #[.int .u64 (pk.1 : Int), .int .u64 (pk.2 : Int)], .pointer (some ⟨g9, 0, none⟩), .pointer (some ⟨g8, 0, none⟩)] (grow (redrawn wr d) os) fun e w'' => e = .returned (.agg #[.slice B1 m3 e3, .slice B2 m4 e4]) ∧ ∃ p : Regrown, w'' = grow (redrawn wr p.d) p.os := fun d os => Calls.regrown_of (cK0.out _ (hbg d os))
                have cX : ∀ d os, Calls Tryz.prog 98 #[.agg #[.int .u64 (pi.1 : Int), .int .u64 (pi.2 : Int)], .pointer (some ⟨g9, 0, none⟩), .pointer (some ⟨g8, 0, none⟩)] (grow (redrawn wr d) os) fun e w'' => e = .returned (.agg #[.slice A1 m1 e1, .slice A2 m2 e2]) ∧ ∃ p : Regrown, w'' = grow (redrawn wr p.d) p.os := fun d os => Calls.regrown_of (cI1 _ (hbg d os))
                have cS0 : ∀ d os, Calls Tryz.prog 59 #[.agg #[.slice B1 m3 e3, .slice B2 m4 e4], .agg #[.slice A1 m1 e1, .slice A2 m2 e2]] (grow (redrawn wr d) os) fun e w'' => e = .returned (.bool (decide (κ k = κ i))) ∧ ∃ p : Regrown, w'' = grow (redrawn wr p.d) p.os := fun d os => by
                  obtain ⟨b, k1, k2⟩ := hPk _ (hbg d os)
                  obtain ⟨b', k3, k4⟩ := hPi2 _ (hbg d os)
                  have h := lsameRows_any _ _ _ _ _ _ _ _ _ _ _ _ b b' _ _ _ _ (grow (redrawn wr d) os) k1 k2 k3 k4 hsk.1 hsk.2 hsi.1 hsi.2
                  rw [hκk, hκi]
                  exact Calls.regrown_of h
                have hBk : Hid (Blk wr gU 4 (ubs (usedL κ nE i k))) := Lib.hid (hS.out.2.get (a := itBlk gU 4 (ubs (usedL κ nE i k))) (by simp))
                have x0 : ∀ d os, (grow (redrawn wr d) os).cell? ⟨gE, k * 2, none⟩ = some (.int .u64 (pk.1 : Int)) := cell_regrown (hCk 0 _ rfl)
                have x1 : ∀ d os, (grow (redrawn wr d) os).cell? ⟨gE, k * 2 + 1, none⟩ = some (.int .u64 (pk.2 : Int)) := cell_regrown (hCk 1 _ rfl)
                have y0 : ∀ d os, (grow (redrawn wr d) os).cell? ⟨gE, i * 2, none⟩ = some (.int .u64 (pi.1 : Int)) := cell_regrown (hCi 0 _ rfl)
                have y1 : ∀ d os, (grow (redrawn wr d) os).cell? ⟨gE, i * 2 + 1, none⟩ = some (.int .u64 (pi.2 : Int)) := cell_regrown (hCi 1 _ rfl)
                have hkz : (k : Int) < (nE : Int) := by omega
                have hkz0 : (0 : Int) ≤ (k : Int) := by omega
                have hwk : Hid (IntKind.i64.wrap ((k : Int) + 1) = (k : Int) + 1) := Lib.hid (by rw [IntKind.wrap_i64]; omega)
                have hrg : wr.ownsRow gU 42 2 vg (grpK κ arc i k).length ((grpK κ arc i k).flatMap enc2) := hS.out.2.get (a := itRow gU 42 2 vg (grpK κ arc i k).length ((grpK κ arc i k).flatMap enc2)) (by simp)
                obtain ⟨ng, hng⟩ : ∃ m, m = (grpK κ arc i k).length := ⟨_, rfl⟩
                have hnl : ng ≤ 4096 := by rw [hng]; exact Nat.le_trans grpK_len (by omega)
                obtain ⟨Ag, cg, rfl, -, -⟩ := own_form hrg
                rw [← hng] at hS hrg ⊢
                replace hpk := Lib.hid hpk
                replace hpi := Lib.hid hpi
                replace hng := Lib.hid hng
                clear hrg hcE hCk hCi hPi2 cI1 hPk hsk hsi cK0 hκk hκi hbg
                have hcase : (κ k ∈ (repsG κ i).map κ ∧ κ k ≠ κ i) ∨ (κ k ∉ (repsG κ i).map κ ∧ κ k ≠ κ i) ∨ (κ k ∉ (repsG κ i).map κ ∧ κ k = κ i) := by
                  by_cases h1 : κ k = κ i
                  · exact .inr (.inr ⟨by rw [h1]; exact hu.out, h1⟩)
                  · by_cases h2 : κ k ∈ (repsG κ i).map κ
                    · exact .inl ⟨h2, h1⟩
                    · exact .inr (.inl ⟨h2, h1⟩)
                go_upto_region 26 with fail
                rcases hcase with ⟨h1, h2⟩ | ⟨h1, h2⟩ | ⟨h1, h2⟩
                case inl =>
                  have u0 : ∀ d os, (grow (redrawn wr d) os).cell? ⟨gU, k, none⟩ = some (.bool true) := cell_regrown (ubs_cell hBk.out (by rw [usedL_get hlk]; simp [h1]))
                  replace h1 := Lib.hid h1
                  replace h2 := Lib.hid h2
                  clear cS0
                  refine wp_region_quiet_below (by kernel_rfl) (by kernel_rfl) ?_
                  iterate 6 (quiet_step (fail))
                  iterate 13 (generalize haa : Act.mk _ _ = aa; refine wpQuiet_skip ?_ ?_; (· subst haa; simp [Region.wanted, yielded]); subst haa; intro Kq hKq; go_simp; refine hKq _ ?_; clear hKq Kq)
                  quiet_step (fail)
                  refine wpQuiet_nil ?_
                  intro w3 hw'
                  have hE : Hid (Below wr.heap.size wr w3) := Lib.hid (by
                    obtain ⟨p, rfl⟩ := hw'
                    exact below_regrown wr p.d p.os)
                  clear hw'
                  replace hS := Lib.hid (hS.out.below hE.out)
                  replace hBk := Lib.hid (Blk.below hBk.out hE.out)
                  replace hD := Lib.hid (hD.out.trans (hE.out.mono (Nat.le_trans hUL hD.out.size)))
                  have hS2 : Hid (NestP w3 gU 31 42 2 enc2 [itBlk gU 4 (ubs (usedL κ nE i (k + 1))), itRow gU 42 2 (.slice Ag ng cg) (grpK κ arc i (k + 1)).length ((grpK κ arc i (k + 1)).flatMap enc2)] vO vs (fullG κ arc nE i)) := Lib.hid (by
                    rw [usedL_skip h2.out, grpK_skip h2.out, ← hng.out]
                    exact hS.out)
                  have hwk := hwk.out
                  clear hE hS hBk u0 x0 x1 y0 y1 cK cX
                  go_wp2_with fail
                  go_roundg (nE - (k + 1))
                  case measure => omega
                  case rel => exact ⟨k + 1, _, by simp, rfl, by omega, by omega, Nat.le_refl _, hS2, hD⟩
                case inr.inl =>
                  have u0 : ∀ d os, (grow (redrawn wr d) os).cell? ⟨gU, k, none⟩ = some (.bool false) := cell_regrown (ubs_cell hBk.out (by rw [usedL_get hlk]; simp [h1]))
                  have cS : ∀ d os, Calls Tryz.prog 59 #[.agg #[.slice B1 m3 e3, .slice B2 m4 e4], .agg #[.slice A1 m1 e1, .slice A2 m2 e2]] (grow (redrawn wr d) os) fun e w'' => e = .returned (.bool false) ∧ ∃ p : Regrown, w'' = grow (redrawn wr p.d) p.os := fun d os => by
                    have h := cS0 d os
                    rw [decide_eq_false h2] at h
                    exact h
                  replace h1 := Lib.hid h1
                  replace h2 := Lib.hid h2
                  clear cS0
                  refine wp_region_quiet_below (by kernel_rfl) (by kernel_rfl) ?_
                  iterate 11 (quiet_step (fail))
                  quiet_step (exact cK _ _)
                  iterate 5 (quiet_step (fail))
                  quiet_step (exact cX _ _)
                  quiet_step (exact cS _ _)
                  quiet_step (fail)
                  refine wpQuiet_nil ?_
                  intro w3 hw'
                  have hE : Hid (Below wr.heap.size wr w3) := Lib.hid (by
                    obtain ⟨p, rfl⟩ := hw'
                    exact below_regrown wr p.d p.os)
                  clear hw'
                  replace hS := Lib.hid (hS.out.below hE.out)
                  replace hBk := Lib.hid (Blk.below hBk.out hE.out)
                  replace hD := Lib.hid (hD.out.trans (hE.out.mono (Nat.le_trans hUL hD.out.size)))
                  have hS2 : Hid (NestP w3 gU 31 42 2 enc2 [itBlk gU 4 (ubs (usedL κ nE i (k + 1))), itRow gU 42 2 (.slice Ag ng cg) (grpK κ arc i (k + 1)).length ((grpK κ arc i (k + 1)).flatMap enc2)] vO vs (fullG κ arc nE i)) := Lib.hid (by
                    rw [usedL_skip h2.out, grpK_skip h2.out, ← hng.out]
                    exact hS.out)
                  have hwk := hwk.out
                  clear hE hS hBk u0 x0 x1 y0 y1 cK cX cS
                  go_wp2_with fail
                  go_roundg (nE - (k + 1))
                  case measure => omega
                  case rel => exact ⟨k + 1, _, by simp, rfl, by omega, by omega, Nat.le_refl _, hS2, hD⟩
                case inr.inr =>
                  have u0 : ∀ d os, (grow (redrawn wr d) os).cell? ⟨gU, k, none⟩ = some (.bool false) := cell_regrown (ubs_cell hBk.out (by rw [usedL_get hlk]; simp [h1]))
                  have cS : ∀ d os, Calls Tryz.prog 59 #[.agg #[.slice B1 m3 e3, .slice B2 m4 e4], .agg #[.slice A1 m1 e1, .slice A2 m2 e2]] (grow (redrawn wr d) os) fun e w'' => e = .returned (.bool true) ∧ ∃ p : Regrown, w'' = grow (redrawn wr p.d) p.os := fun d os => by
                    have h := cS0 d os
                    rw [decide_eq_true h2] at h
                    exact h
                  replace h1 := Lib.hid h1
                  replace h2 := Lib.hid h2
                  clear cS0
                  refine wp_region_quiet_below (by kernel_rfl) (by kernel_rfl) ?_
                  iterate 11 (quiet_step (fail))
                  quiet_step (exact cK _ _)
                  iterate 5 (quiet_step (fail))
                  quiet_step (exact cX _ _)
                  quiet_step (exact cS _ _)
                  quiet_step (fail)
                  refine wpQuiet_nil ?_
                  intro w3 hw'
                  have hE : Hid (Below wr.heap.size wr w3) := Lib.hid (by
                    obtain ⟨p, rfl⟩ := hw'
                    exact below_regrown wr p.d p.os)
                  clear hw'
                  replace hS := Lib.hid (hS.out.below hE.out)
                  replace hBk := Lib.hid (Blk.below hBk.out hE.out)
                  replace hD := Lib.hid (hD.out.trans (hE.out.mono (Nat.le_trans hUL hD.out.size)))
                  have s0 : w3.cell? ⟨gU, k, none⟩ = some (.bool false) := ubs_cell hBk.out (by rw [usedL_get hlk]; simp [h1.out])
                  have sf : w3.frozen? ⟨gU, k, none⟩ = false := hBk.out.frozen k
                  have hS2 : Hid (NestP (w3.setCell ⟨gU, k, none⟩ (.bool true)) gU 31 42 2 enc2 [itBlk gU 4 (ubs (usedL κ nE i (k + 1))), itRow gU 42 2 (.slice Ag ng cg) ng ((grpK κ arc i k).flatMap enc2)] vO vs (fullG κ arc nE i)) := Lib.hid (by
                    have h := NestP.side (A := []) (C := [itRow gU 42 2 (.slice Ag ng cg) ng ((grpK κ arc i k).flatMap enc2)]) (a := itBlk gU 4 (ubs (usedL κ nE i k))) (a' := itBlk gU 4 (ubs (usedL κ nE i (k + 1)))) (w' := w3.setCell ⟨gU, k, none⟩ (.bool true)) (by exact hS.out) (gb_of_but (But.set1 w3 gU k _)) (by rw [← usedL_set h2.out]; exact ubs_set hBk.out k true) (fun q hq => .inl hq)
                    exact h)
                  have hD2 : Hid (Below gU wL (w3.setCell ⟨gU, k, none⟩ (.bool true))) := Lib.hid (hD.out.setCell (p := ⟨gU, k, none⟩) (Nat.le_refl gU) _)
                  clear hE hS hBk u0 x0 x1 y0 y1 cK cX cS hD
                  go_upto_region 28 with fail
                  generalize hW : w3.setCell ⟨gU, k, none⟩ (.bool true) = w4 at hS2 hD2 ⊢
                  clear hW s0 sf
                  have hx : ∀ (j : Nat) (u : Value), (enc2 pk)[j]? = some u → w4.cell? ⟨gE, k * 2 + j, none⟩ = some u := fun j u hu2 => by
                    have h := hEc.out w4 hD2.out
                    have hql : k < E.length := by rw [← hnE.out]; exact hlk
                    have hj : j < 2 := (List.getElem?_eq_some_iff.1 hu2).1
                    have e := flatMap_get enc2 2 (fun _ => rfl) E k j hql hj
                    rw [← getElem!_pos E k hql, ← hpk.out, hu2] at e
                    rw [World.ownsRow.cellAt h _ (by omega)]
                    exact e
                  have x0 : w4.cell? ⟨gE, k * 2, none⟩ = some (.int .u64 (pk.1 : Int)) := hx 0 _ rfl
                  have x1 : w4.cell? ⟨gE, k * 2 + 1, none⟩ = some (.int .u64 (pk.2 : Int)) := hx 1 _ rfl
                  have hrg : Hid (w4.ownsRow gU 42 2 (.slice Ag ng cg) ng ((grpK κ arc i k).flatMap enc2)) := Lib.hid (hS2.out.2.get (a := itRow gU 42 2 (.slice Ag ng cg) ng ((grpK κ arc i k).flatMap enc2)) (by simp))
                  have hDs := hD2.out.size
                  clear hx
                  go_wp2_with (at_builtin; refine wpList_append_own_at _ rfl _ _ 31 rfl gU 42 ia (.agg #[.int .u64 0, .int .u64 0]) 2 16 Tryz.underlying31 ha0 ha1 ha2 ha3 rfl (by decide) _ _ _ rfl (hrg.out.alloc _) ⟨w4.heap.size, 0, none⟩ 1 1 (enc2 pk) rfl rfl (q_news (Blk.new w4 42 (enc2 pk).toArray)) (q_one pk) (by unfold maxLen; omega) (by omega) (by simp; omega) ?_)
                  intro v6 w6 hown6 hgrow6 _ hloc6
                  have hB6 : Hid (Below gU wL w6) := Lib.hid ((hD2.out.alloc (by omega) (.cells #[.int .u64 (pk.1 : Int), .int .u64 (pk.2 : Int)] 42)).grown hgrow6 (by simp; omega) (fun q hq => (World.ownsRow.lt hrg.out q hq).1))
                  have hN6 : Hid (NestP w6 gU 31 42 2 enc2 [itBlk gU 4 (ubs (usedL κ nE i (k + 1))), itRow gU 42 2 v6 (grpK κ arc i (k + 1)).length ((grpK κ arc i (k + 1)).flatMap enc2)] vO vs (fullG κ arc nE i)) := Lib.hid (by
                    have ea : arc k = pk := by rw [harc.out, hpk.out]
                    rw [grpK_step h2.out, ea, List.length_append, List.length_singleton, List.flatMap_append, List.flatMap_singleton, ← hng.out]
                    exact NestP.side (A := [itBlk gU 4 (ubs (usedL κ nE i (k + 1)))]) (C := []) (a := itRow gU 42 2 (.slice Ag ng cg) ng ((grpK κ arc i k).flatMap enc2)) (a' := itRow gU 42 2 v6 (ng + 1) ((grpK κ arc i k).flatMap enc2 ++ enc2 pk)) (hS2.out.alloc (.cells #[.int .u64 (pk.1 : Int), .int .u64 (pk.2 : Int)] 42)) hgrow6 hown6 (fun q hq => by
                      rcases hloc6 with h | h
                      · left; show Value.ownBlock (.slice Ag ng cg) = some q; rw [← h]; exact hq
                      · right
                        have hq : v6.ownBlock = some q := hq
                        rw [h] at hq
                        injection hq with hq
                        rw [World.size_alloc]
                        omega))
                  have hwk := hwk.out
                  clear hown6 hgrow6 hloc6 hS2 hD2 hrg x0 x1
                  go_wp2_with fail
                  go_roundg (nE - (k + 1))
                  case measure => omega
                  case rel => exact ⟨k + 1, _, by simp, rfl, by omega, by omega, Nat.le_refl _, hN6, hB6⟩
    case pos =>
      obtain ⟨g, o, rfl, hcl⟩ := hcel.out (by omega)
      obtain ⟨r, hr⟩ : ∃ r, r = Ls[i]! := ⟨_, rfl⟩
      have hszi := hszr.out i hlt
      have hC : ∀ W, Below w.heap.size w W → ∀ (j : Nat) (u : Value), (encQ r)[j]? = some u → W.cell? ⟨g, o + i * 3 + j, none⟩ = some u := fun W hb => by rw [hr]; exact hcl W hb i hlt
      rw [← hr] at hszi
      have cI := Lib.hid (fun W => cOf.out r W hszi)
      have hmi := Lib.hid (hmay.out r)
      obtain ⟨q1, q2, q3⟩ := r
      replace hC := Lib.hid hC
      replace hszi := Lib.hid hszi
      replace hr := Lib.hid hr
      obtain ⟨eR, heR⟩ : ∃ e, e = errR b1 d (q1, q2, q3) := ⟨_, rfl⟩
      obtain ⟨p, hp⟩ : ∃ p : PT, p = (be (sl q2), be (sl q3)) := ⟨_, rfl⟩
      simp only [] at cI hmi
      rw [← heR, ← hp] at cI hmi
      obtain ⟨P, hP⟩ : ∃ P, P = (if eR = 0 then (rk p).1 else []) := ⟨_, rfl⟩
      obtain ⟨Q, hQ⟩ : ∃ Q, Q = (if eR = 0 then (rk p).2 else []) := ⟨_, rfl⟩
      rw [← hP, ← hQ] at cI
      replace hP := Lib.hid hP
      replace hQ := Lib.hid hQ
      replace hp := Lib.hid hp
      replace heR := Lib.hid heR
      have y0 : wr.cell? ⟨w.heap.size, 0, none⟩ = some (.bool n1) := hG.out.by_.cell 0
      have y1_ : wr.cell? ⟨w.heap.size, 1, none⟩ = some (.string a1) := hG.out.by_.cell 1
      have y2 : wr.cell? ⟨w.heap.size, 2, none⟩ = some (.string d1) := hG.out.by_.cell 2
      have y3 : wr.cell? ⟨g, o + i * 3, none⟩ = some (.bool q1) := hC.out wr hB.out 0 _ rfl
      have y4 : wr.cell? ⟨g, o + i * 3 + 1, none⟩ = some (.string q2) := hC.out wr hB.out 1 _ rfl
      have y5 : wr.cell? ⟨g, o + i * 3 + 2, none⟩ = some (.string q3) := hC.out wr hB.out 2 _ rfl
      have hiz : (i : Int) < (n : Int) := by omega
      have hiz0 : (0 : Int) ≤ (i : Int) := by omega
      have hwi : Hid (IntKind.i64.wrap ((i : Int) + 1) = (i : Int) + 1) := Lib.hid (by rw [IntKind.wrap_i64]; omega)
      clear hcl
      go_upto_region 6 with fail
      go_cut [11, 12] from 22 to 58 (fun s11 s12 wx => ∃ (gS : Nat) (A1 A2 : Option Addr) (lp lq : Nat), s11 = .pointer (some ⟨gS, 0, none⟩) ∧ s12 = .int .i64 eR ∧ Hid (Blk wx gS 120 #[.slice A1 lp lp, .slice A2 lq lq]) ∧ Hid (∃ b, Pf wx b (.slice A1 lp lp) P ∧ Pf wx b (.slice A2 lq lq) Q) ∧ Hid (Below wr.heap.size wr wx))
      case first =>
        have hE0 := Lib.hid (show Below wr.heap.size wr wr.drew from (Below.refl _ wr).drew)
        have hE1 := Lib.hid (show Below wr.heap.size wr (wr.alloc (.cells #[.slice none 0 0, .slice none 0 0] 120)).drew from ((Below.refl _ wr).alloc (Nat.le_refl _) _).drew)
        have q0 : w.heap.size < wr.heap.size := block_lt_of_cell y0
        have q1' : g < wr.heap.size := block_lt_of_cell y3
        go_region_held3 (fun w' => w'.cell? ⟨w.heap.size, 0, none⟩ = some (.bool n1) ∧ w'.cell? ⟨w.heap.size, 1, none⟩ = some (.string a1) ∧ w'.cell? ⟨w.heap.size, 2, none⟩ = some (.string d1) ∧ w'.cell? ⟨g, o + i * 3, none⟩ = some (.bool q1) ∧ w'.cell? ⟨g, o + i * 3 + 1, none⟩ = some (.string q2) ∧ w'.cell? ⟨g, o + i * 3 + 2, none⟩ = some (.string q3)) (first | (have hq0 := x0; with_reducible exact ⟨keep_setG z0 (by simp; omega), keep_setG z1 (by simp; omega), keep_setG z2 (by simp; omega), keep_setG z3 (by simp; omega), keep_setG z4 (by simp; omega), keep_setG z5 (by simp; omega)⟩) | go_keep)
          (first
            | (go_at_call 58; (with_reducible refine Calls.mono (cI.out wr.drew) ?_); rintro en w5 ⟨v1, v2, rfl, hP, hQ, hb⟩; obtain ⟨A1, hv1⟩ := hP.2; obtain ⟨A2, hv2⟩ := hQ.2; subst hv1 hv2; obtain ⟨lp, hlp⟩ : ∃ l, l = P.length := ⟨_, rfl⟩; obtain ⟨lq, hlq⟩ : ∃ l, l = Q.length := ⟨_, rfl⟩; rw [← hlp] at hP ⊢; rw [← hlq] at hQ ⊢; clear hlp hlq; replace hP := Lib.hid hP.1; replace hQ := Lib.hid hQ.1; have hE := Lib.hid (hE0.out.trans (hb.mono hE0.out.size)); have z0 : w5.cell? ⟨w.heap.size, 0, none⟩ = some (.bool n1) := (by rw [hE.out.cell (block_lt_of_cell y0)]; exact y0); have z1 : w5.cell? ⟨w.heap.size, 1, none⟩ = some (.string a1) := (by rw [hE.out.cell (block_lt_of_cell y1_)]; exact y1_); have z2 : w5.cell? ⟨w.heap.size, 2, none⟩ = some (.string d1) := (by rw [hE.out.cell (block_lt_of_cell y2)]; exact y2); have z3 : w5.cell? ⟨g, o + i * 3, none⟩ = some (.bool q1) := (by rw [hE.out.cell (block_lt_of_cell y3)]; exact y3); have z4 : w5.cell? ⟨g, o + i * 3 + 1, none⟩ = some (.string q2) := (by rw [hE.out.cell (block_lt_of_cell y4)]; exact y4); have z5 : w5.cell? ⟨g, o + i * 3 + 2, none⟩ = some (.string q3) := (by rw [hE.out.cell (block_lt_of_cell y5)]; exact y5); clear hb)
            | (go_at_call 58; (with_reducible refine Calls.mono (cI.out (wr.alloc (.cells #[.slice none 0 0, .slice none 0 0] 120)).drew) ?_); rintro en w5 ⟨v1, v2, rfl, hP, hQ, hb⟩; obtain ⟨A1, hv1⟩ := hP.2; obtain ⟨A2, hv2⟩ := hQ.2; subst hv1 hv2; obtain ⟨lp, hlp⟩ : ∃ l, l = P.length := ⟨_, rfl⟩; obtain ⟨lq, hlq⟩ : ∃ l, l = Q.length := ⟨_, rfl⟩; rw [← hlp] at hP ⊢; rw [← hlq] at hQ ⊢; clear hlp hlq; replace hP := Lib.hid hP.1; replace hQ := Lib.hid hQ.1; have hX := Lib.hid (show Blk w5 wr.heap.size 120 #[.slice none 0 0, .slice none 0 0] from Blk.below (show Blk (wr.alloc (.cells #[.slice none 0 0, .slice none 0 0] 120)).drew wr.heap.size 120 #[.slice none 0 0, .slice none 0 0] from Blk.new wr 120 #[.slice none 0 0, .slice none 0 0]) hb); have x0 : w5.cell? ⟨wr.heap.size, 0, none⟩ = some (.slice none 0 0) := hX.out.cell 0; have xf0 := hX.out.frozen 0; have x1 : w5.cell? ⟨wr.heap.size, 1, none⟩ = some (.slice none 0 0) := hX.out.cell 1; have xf1 := hX.out.frozen 1; have hE := Lib.hid (hE1.out.trans (hb.mono hE1.out.size)); have z0 : w5.cell? ⟨w.heap.size, 0, none⟩ = some (.bool n1) := (by rw [hE.out.cell (block_lt_of_cell y0)]; exact y0); have z1 : w5.cell? ⟨w.heap.size, 1, none⟩ = some (.string a1) := (by rw [hE.out.cell (block_lt_of_cell y1_)]; exact y1_); have z2 : w5.cell? ⟨w.heap.size, 2, none⟩ = some (.string d1) := (by rw [hE.out.cell (block_lt_of_cell y2)]; exact y2); have z3 : w5.cell? ⟨g, o + i * 3, none⟩ = some (.bool q1) := (by rw [hE.out.cell (block_lt_of_cell y3)]; exact y3); have z4 : w5.cell? ⟨g, o + i * 3 + 1, none⟩ = some (.string q2) := (by rw [hE.out.cell (block_lt_of_cell y4)]; exact y4); have z5 : w5.cell? ⟨g, o + i * 3 + 2, none⟩ = some (.string q3) := (by rw [hE.out.cell (block_lt_of_cell y5)]; exact y5); clear hb))
        · have kD := Lib.hid (Blk.new w5 120 #[.slice A1 lp lp, .slice A2 lq lq])
          have hE5 := Lib.hid (show Below wr.heap.size wr (w5.alloc (.cells #[.slice A1 lp lp, .slice A2 lq lq] 120)) from hE.out.alloc hE.out.size _)
          have hPf : Hid (∃ b, Pf (w5.alloc (.cells #[.slice A1 lp lp, .slice A2 lq lq] 120)) b (.slice A1 lp lp) P ∧ Pf (w5.alloc (.cells #[.slice A1 lp lp, .slice A2 lq lq] 120)) b (.slice A2 lq lq) Q) := Lib.hid ⟨_, hP.out.alloc (.cells #[.slice A1 lp lp, .slice A2 lq lq] 120), hQ.out.alloc (.cells #[.slice A1 lp lp, .slice A2 lq lq] 120)⟩
          go_wp2_with fail
          go_meet
          case rel => exact ⟨_, A1, A2, lp, lq, rfl, rfl, kD, hPf, hE5⟩
        · have kD := Lib.hid (show Blk ((w5.setCell ⟨wr.heap.size, 0, none⟩ (.slice A1 lp lp)).setCell ⟨wr.heap.size, 1, none⟩ (.slice A2 lq lq)) wr.heap.size 120 #[.slice A1 lp lp, .slice A2 lq lq] from (hX.out.set_ 0 (.slice A1 lp lp)).set_ 1 (.slice A2 lq lq))
          have hE5 := Lib.hid (show Below wr.heap.size wr ((w5.setCell ⟨wr.heap.size, 0, none⟩ (.slice A1 lp lp)).setCell ⟨wr.heap.size, 1, none⟩ (.slice A2 lq lq)) from (hE.out.setCell (p := ⟨wr.heap.size, 0, none⟩) (by simp) _).setCell (p := ⟨wr.heap.size, 1, none⟩) (by simp) _)
          have hPf : Hid (∃ b, Pf ((w5.setCell ⟨wr.heap.size, 0, none⟩ (.slice A1 lp lp)).setCell ⟨wr.heap.size, 1, none⟩ (.slice A2 lq lq)) b (.slice A1 lp lp) P ∧ Pf ((w5.setCell ⟨wr.heap.size, 0, none⟩ (.slice A1 lp lp)).setCell ⟨wr.heap.size, 1, none⟩ (.slice A2 lq lq)) b (.slice A2 lq lq) Q) := Lib.hid ⟨_, pf_setG hP.out (u0 := .slice A1 lp lp) (u1 := .slice A2 lq lq) (show wr.heap.size < (wr.alloc (.cells #[.slice none 0 0, .slice none 0 0] 120)).drew.heap.size by show wr.heap.size < (wr.alloc (.cells #[.slice none 0 0, .slice none 0 0] 120)).heap.size; simp), pf_setG hQ.out (show wr.heap.size < (wr.alloc (.cells #[.slice none 0 0, .slice none 0 0] 120)).drew.heap.size by show wr.heap.size < (wr.alloc (.cells #[.slice none 0 0, .slice none 0 0] 120)).heap.size; simp)⟩
          go_wp2_with fail
          go_meet
          case rel => exact ⟨_, A1, A2, lp, lq, rfl, rfl, kD, hPf, hE5⟩
      obtain ⟨gS, A1, A2, lp, lq, rfl, rfl, kS, hPf, hE⟩ := hcut
      replace hG := Lib.hid (hG.out.below hE.out)
      replace hB := Lib.hid (hB.out.trans (hE.out.mono hB.out.size))
      clear y0 y1_ y2 y3 y4 y5 hE cI
      by_cases he : eR = 0
      case neg =>
        have hEGe : Hid (EG = eR) := Lib.hid (by
          rw [hEG.out, errG_at (by rw [← hn.out]; exact hlt) hE0.out (by rw [← hr.out, ← heR.out]; exact he), ← hr.out, ← heR.out])
        have heb : (eR == 0) = false := by simpa using he
        go_wp2_with fail
        go_ret2
        exact .inr ⟨by rw [hEGe.out]; exact he, by rw [hEGe.out]; rfl, hB.out⟩
      case pos =>
        subst he
        obtain ⟨hok, hmy⟩ := hmi.out rfl
        replace hP := Lib.hid (hP.out.trans (if_pos rfl))
        replace hQ := Lib.hid (hQ.out.trans (if_pos rfl))
        have cO : Hid (∀ W, Calls Tryz.prog 24 #[.agg #[.bool q1, .string q2, .string q3]] W (RetVal (.tuple #[.agg #[.int .u64 (p.1 : Int), .int .u64 (p.2 : Int)], .bool true]) W)) := Lib.hid (fun W => by
          have h := rof_any q1 q2 q3 W hszi.out.1 hszi.out.2
          rw [smallV_yes hok] at h
          rw [hp.out]
          exact h)
        have htk : Hid (Ls.take (i + 1) = Ls.take i ++ [(q1, q2, q3)]) := Lib.hid (by
          rw [List.take_succ_eq_append_getElem (by rw [← hn.out]; exact hlt), hr.out, getElem!_pos Ls i (by rw [← hn.out]; exact hlt)])
        have hang : Hid (angQ (Ls.take (i + 1)) = angQ (Ls.take i) ++ [p]) := Lib.hid (by rw [htk.out, hp.out, angQ_snoc])
        have hRl : (angQ (Ls.take i)).length = i := by rw [angQ_len, List.length_take, ← hn.out]; omega
        have hE1 : Hid (∀ j, j < i + 1 → errR b1 d Ls[j]! = 0) := Lib.hid (fun j hj => by
          rcases Nat.lt_or_ge j i with h | h
          · exact hE0.out j h
          · obtain rfl : j = i := by omega
            rw [← hr.out]; exact heR.out.symm)
        have m0 : wc.cell? ⟨g, o + i * 3, none⟩ = some (.bool q1) := hC.out wc hB.out 0 _ rfl
        have m1 : wc.cell? ⟨g, o + i * 3 + 1, none⟩ = some (.string q2) := hC.out wc hB.out 1 _ rfl
        have m2 : wc.cell? ⟨g, o + i * 3 + 2, none⟩ = some (.string q3) := hC.out wc hB.out 2 _ rfl
        have hall := hG.out.all
        rw [hRl] at hall
        obtain ⟨Aa, ca, rfl, -, -⟩ := own_form hall
        replace hall := Lib.hid hall
        replace hmy := Lib.hid hmy
        replace hok := Lib.hid hok
        go_wp2_with fail
        refine (cO.out _).mono ?_
        rintro en w4 ⟨rfl, hb⟩
        replace hG := Lib.hid (hG.out.below hb)
        replace kS := Lib.hid (Blk.below kS.out hb)
        replace hPf : Hid (∃ b, Pf w4 b (.slice A1 lp lp) P ∧ Pf w4 b (.slice A2 lq lq) Q) := Lib.hid (by
          obtain ⟨b, h1, h2⟩ := hPf.out
          exact ⟨b, h1.below hb, h2.below hb⟩)
        replace hB := Lib.hid (hB.out.trans (hb.mono hB.out.size))
        clear hb cO m0 m1 m2 hall
        go_upto_region 12 with fail
        have kp := Lib.hid (Blk.new w4 42 #[.int .u64 (p.1 : Int), .int .u64 (p.2 : Int)])
        replace hG := Lib.hid (hG.out.below (show Below w4.heap.size w4 (w4.alloc (.cells #[.int .u64 (p.1 : Int), .int .u64 (p.2 : Int)] 42)) from (Below.refl w4.heap.size w4).alloc (Nat.le_refl _) (.cells #[.int .u64 (p.1 : Int), .int .u64 (p.2 : Int)] 42)))
        replace kS := Lib.hid (Blk.below kS.out (show Below w4.heap.size w4 (w4.alloc (.cells #[.int .u64 (p.1 : Int), .int .u64 (p.2 : Int)] 42)) from (Below.refl w4.heap.size w4).alloc (Nat.le_refl _) (.cells #[.int .u64 (p.1 : Int), .int .u64 (p.2 : Int)] 42)))
        replace hPf : Hid (∃ b, Pf (w4.alloc (.cells #[.int .u64 (p.1 : Int), .int .u64 (p.2 : Int)] 42)) b (.slice A1 lp lp) P ∧ Pf (w4.alloc (.cells #[.int .u64 (p.1 : Int), .int .u64 (p.2 : Int)] 42)) b (.slice A2 lq lq) Q) := Lib.hid (by
          obtain ⟨b, h1, h2⟩ := hPf.out
          exact ⟨b, h1.below (show Below w4.heap.size w4 (w4.alloc (.cells #[.int .u64 (p.1 : Int), .int .u64 (p.2 : Int)] 42)) from (Below.refl w4.heap.size w4).alloc (Nat.le_refl _) (.cells #[.int .u64 (p.1 : Int), .int .u64 (p.2 : Int)] 42)), h2.below (show Below w4.heap.size w4 (w4.alloc (.cells #[.int .u64 (p.1 : Int), .int .u64 (p.2 : Int)] 42)) from (Below.refl w4.heap.size w4).alloc (Nat.le_refl _) (.cells #[.int .u64 (p.1 : Int), .int .u64 (p.2 : Int)] 42))⟩)
        replace hB := Lib.hid (hB.out.alloc hB.out.size (.cells #[.int .u64 (p.1 : Int), .int .u64 (p.2 : Int)] 42))
        generalize hW : w4.alloc (.cells #[.int .u64 (p.1 : Int), .int .u64 (p.2 : Int)] 42) = w5 at hG kS hPf hB kp ⊢
        generalize hgg : w4.heap.size = gp at kp ⊢
        clear hW hgg
        have p0 : w5.cell? ⟨gp, 0, none⟩ = some (.int .u64 (p.1 : Int)) := kp.out.cell 0
        have p1 : w5.cell? ⟨gp, 1, none⟩ = some (.int .u64 (p.2 : Int)) := kp.out.cell 1
        have c9 : w5.cell? ⟨g9, 0, none⟩ = some (.slice Aa i ca) := hG.out.b9.cell 0
        have hG5 := Lib.hid (hG.out.below ((Below.refl w5.heap.size w5).alloc (Nat.le_refl _) (.cells #[.int .u64 (p.1 : Int), .int .u64 (p.2 : Int)] 42)))
        have hall : Hid ((w5.alloc (.cells #[.int .u64 (p.1 : Int), .int .u64 (p.2 : Int)] 42)).ownsRow w.heap.size 42 2 (.slice Aa i ca) i ((angQ (Ls.take i)).flatMap enc2)) := Lib.hid (by have h := hG5.out.all; rw [hRl] at h; exact h)
        go_wp2_with (at_builtin; refine wpList_append_own_at _ rfl _ _ 31 rfl w.heap.size 42 ia (.agg #[.int .u64 0, .int .u64 0]) 2 16 Tryz.underlying31 ha0 ha1 ha2 ha3 rfl (by decide) _ _ _ rfl hall.out ⟨w5.heap.size, 0, none⟩ 1 1 (enc2 p) rfl rfl (q_news (Blk.new w5 42 (enc2 p).toArray)) (q_one p) (by unfold maxLen; omega) (by omega) (by have := hB.out.size; simp; omega) ?_)
        intro v6 w6 hown6 hgrow6 _ _
        obtain ⟨A6, c6, hv6, -, -⟩ := own_form hown6
        subst hv6
        have k9 := Lib.hid (Blk.grown hG5.out.b9 hgrow6 (row_typ_ne hG5.out.all hG5.out.b9 (by decide)))
        have c9' : w6.cell? ⟨g9, 0, none⟩ = some (.slice Aa i ca) := k9.out.cell 0
        have f9' := k9.out.frozen 0
        have hB6 := Lib.hid (((hB.out.alloc hB.out.size (.cells #[.int .u64 (p.1 : Int), .int .u64 (p.2 : Int)] 42)).grown hgrow6 (by have := hB.out.size; simp; omega) (fun q hq => (World.ownsRow.lt hall.out q hq).1)).setCell (p := ⟨g9, 0, none⟩) h9B.out (.slice A6 (i + 1) c6))
        have hlr : ir.length ≤ (angQ (Ls.take i)).length := by rw [hir.out, hRl]; exact Nat.le_refl _
        have hG6 := Lib.hid (hG5.out.addA (v' := .slice A6 (i + 1) c6) (p := p) hlr hgrow6 (by rw [hRl]; exact hown6))
        have ht6 := Lib.hid (hG5.out.twA (v' := .slice A6 (i + 1) c6) hgrow6)
        rw [← hang.out] at hG6
        clear hown6 hgrow6 c9 k9
        go_upto_region 13 with fail
        clear c9' f9'
        have kS6 := Lib.hid ((Blk.alloc kS.out (.cells #[.int .u64 (p.1 : Int), .int .u64 (p.2 : Int)] 42)).tw ht6.out (by decide))
        have hPf6 : Hid (∃ b, Pf (w6.setCell ⟨g9, 0, none⟩ (.slice A6 (i + 1) c6)) b (.slice A1 lp lp) P ∧ Pf (w6.setCell ⟨g9, 0, none⟩ (.slice A6 (i + 1) c6)) b (.slice A2 lq lq) Q) := Lib.hid (by
          obtain ⟨b, h1, h2⟩ := hPf.out
          exact ⟨b, (h1.alloc (.cells #[.int .u64 (p.1 : Int), .int .u64 (p.2 : Int)] 42)).tw ht6.out (by decide), (h2.alloc (.cells #[.int .u64 (p.1 : Int), .int .u64 (p.2 : Int)] 42)).tw ht6.out (by decide)⟩)
        clear hG hB hPf kS kp p0 p1 hall hG5 ht6
        generalize hW : w6.setCell ⟨g9, 0, none⟩ (.slice A6 (i + 1) c6) = w7 at hB6 hG6 kS6 hPf6 ⊢
        clear hW
        have s0 : w7.cell? ⟨gS, 0, none⟩ = some (.slice A1 lp lp) := kS6.out.cell 0
        have s1 : w7.cell? ⟨gS, 1, none⟩ = some (.slice A2 lq lq) := kS6.out.cell 1
        have hG8 := Lib.hid (hG6.out.below ((Below.refl w7.heap.size w7).alloc (Nat.le_refl _) (.cells #[.slice A1 lp lp, .slice A2 lq lq] 120)))
        have hrows := hG6.out.rows
        rw [hir.out] at hrows
        obtain ⟨Ar, cr, rfl, -, -⟩ := own_form hrows
        have c8 : w7.cell? ⟨g8, 0, none⟩ = some (.slice Ar i cr) := hG6.out.b8.cell 0
        replace hrows := Lib.hid (World.ownsRow.alloc hrows (.cells #[.slice A1 lp lp, .slice A2 lq lq] 120))
        go_wp2_with (at_builtin; refine wpList_append_own_at _ rfl _ _ 178 rfl w.heap.size 120 ii (.agg #[.slice none 0 0, .slice none 0 0]) 2 48 Tryz.underlying178 hi0 hi1 hi2 hi3 rfl (by decide) _ _ _ rfl hrows.out ⟨w7.heap.size, 0, none⟩ 1 1 [.slice A1 lp lp, .slice A2 lq lq] rfl rfl i_news i_one (by unfold maxLen; omega) (by omega) (by have := hB6.out.size; simp; omega) ?_)
        intro v8 w8 hown8 hgrow8 _ _
        obtain ⟨A8, c8_, hv8, -, -⟩ := own_form hown8
        subst hv8
        have k8 := Lib.hid (Blk.grown hG8.out.b8 hgrow8 (row_typ_ne hG8.out.rows hG8.out.b8 (by decide)))
        have c8' : w8.cell? ⟨g8, 0, none⟩ = some (.slice Ar i cr) := k8.out.cell 0
        have f8' := k8.out.frozen 0
        have hB8 := Lib.hid (((hB6.out.alloc hB6.out.size (.cells #[.slice A1 lp lp, .slice A2 lq lq] 120)).grown hgrow8 (by have := hB6.out.size; simp; omega) (fun q hq => (World.ownsRow.lt hrows.out q hq).1)).setCell (p := ⟨g8, 0, none⟩) h8B.out (.slice A8 (i + 1) c8_))
        have hps : Hid ((angQ (Ls.take (i + 1)))[ir.length]! = p) := Lib.hid (by
          rw [hang.out, hir.out, getElem!_pos _ i (by rw [List.length_append, hRl]; simp), List.getElem_append_right (by rw [hRl]; exact Nat.le_refl _)]
          simp [hRl])
        have hG9 : Hid (GrS (w8.setCell ⟨g8, 0, none⟩ (.slice A8 (i + 1) c8_)) w.heap.size g8 g9 #[.bool n1, .string a1, .string d1] (.slice A8 (i + 1) c8_) (.slice A6 (i + 1) c6) (ir ++ [(.slice A1 lp lp, .slice A2 lq lq)]) (angQ (Ls.take (i + 1))) rk) := Lib.hid (by
          obtain ⟨b, h1, h2⟩ := hPf6.out
          rw [hP.out] at h1
          rw [hQ.out] at h2
          exact hG8.out.addR (v' := .slice A8 (i + 1) c8_) (r := (.slice A1 lp lp, .slice A2 lq lq)) hgrow8 (by rw [hir.out]; exact hown8) (b := b) (by rw [hps.out]; exact h1.alloc _) (by rw [hps.out]; exact h2.alloc _))
        have hir2 : Hid ((ir ++ [((.slice A1 lp lp, .slice A2 lq lq) : Value × Value)]).length = i + 1) := Lib.hid (by rw [List.length_append, hir.out]; rfl)
        have hwi := hwi.out
        clear hown8 hgrow8 hG8 hG6 hB6 hPf6 kS6 s0 s1 c8 hrows k8 hRl hlr
        go_wp2_with fail
        go_roundg (n - (i + 1))
        case measure => omega
        case rel => exact ⟨i + 1, _, _, _, by simp, by omega, Nat.le_refl _, hir2, hG9, hE1, hB8⟩
end Go.Proofs.YtoaggmegmgdgbaaGreat
