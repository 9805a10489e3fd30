/- filigreeref11: made, two. -/
import Derived.Test.YtnaadajcehfmiaaGreatDoorLvE
namespace Go.Proofs.YtnaadajcehfmiaaGreatDoor
open Go.RowKit Go.Sort Go.Maps

section
variable {T0 : List Tok} {last : Nat} {wrong : Bool} {B p i : Nat} {X : List It} {o : Int} {oN : Nat} {N : List Nod} {H : List Nat} {U : List (List Nat × Nat)} {wh cd : Nat} {st : PS} {w w' : World}
theorem RvM.push {a : It} (h : RvM T0 last wrong B p X o i N H U wh cd w) (hg : w.grownBy w' none) (hP : a.P w') (hl : ∀ k, a.own = some k → w.heap.size ≤ k) : RvM T0 last wrong B p (X ++ [a]) o i N H U wh cd w' := by
  obtain ⟨vT, vN, vH, vL, h1, h2⟩ := h
  refine ⟨vT, vN, vH, vL, ?_, h2⟩
  have := h1.newR hg hP hl
  rwa [List.append_assoc] at this
theorem RvM.pop {a : It} (h : RvM T0 last wrong B p (X ++ [a]) o i N H U wh cd w) : RvM T0 last wrong B p X o i N H U wh cd w := by
  obtain ⟨vT, vN, vH, vL, h1, h2⟩ := h
  exact ⟨vT, vN, vH, vL, h1.sub (List.Sublist.append (List.Sublist.refl _) (List.sublist_append_left _ _)), h2⟩
theorem RvM.last_ {a : It} (h : RvM T0 last wrong B p (X ++ [a]) o i N H U wh cd w) : a.P w := by
  obtain ⟨vT, vN, vH, vL, h1, h2⟩ := h
  exact h1.1 a (by simp)
/-- Room for one more part, and how high it is, and what the method then tells. -/
theorem RvOk.add (h : RvOk T0 i st) (n : Nod) (hgt : Nat) (h1 : st.N.length < 4096) (h2 : hgt ≤ 64) : RvOk T0 i { st with N := st.N ++ [n], H := st.H ++ [hgt] } := by
  refine ⟨h.iT, h.il, ?_, ?_, ?_, h.lets, h.nams⟩
  · show (st.H ++ [hgt]).length = (st.N ++ [n]).length
    rw [List.length_append, List.length_append, h.len]; rfl
  · show (st.N ++ [n]).length ≤ 4096
    rw [List.length_append, List.length_singleton]; omega
  · intro x hx
    rcases List.mem_append.1 hx with hx | hx
    · exact h.hs x hx
    · rw [List.mem_singleton.1 hx]; exact h2
set_option maxRecDepth 100000 in
set_option maxHeartbeats 8000000 in
/-- made -/
theorem rvMade (n : Nod) (hgt at_ : Nat) (hT : TkOk T0 last) (h : RvS T0 last wrong B p X oN st w) (hh : hgt ≤ 1000) :
    Calls Tryz.prog 49 #[.pointer (some ⟨p, 0, none⟩), .agg #[.int .u8 (n.kind : Int), .string (mkS n.text), .int .i64 (n.a : Int), .int .i64 (n.b : Int), .int .i64 (n.n : Int)], .int .i64 (hgt : Int), .int .i64 (at_ : Int)] w (PostV T0 last wrong B p X oN st w (addP n hgt at_ st)) := by
  obtain ⟨i, h, hk⟩ := h
  obtain ⟨j1, ji, jz0, jz1, jz2⟩ := info_parts info_node
  obtain ⟨i1, ii, iz0, iz1, iz2⟩ := info_parts info_int
  have hBs := h.lt.2.1
  have hPB := Lib.hid h.lt.2.2
  have hBW := (Below.refl B w).alloc hBs (.cells #[.int .u8 (n.kind : Int), .string (mkS n.text), .int .i64 (n.a : Int), .int .i64 (n.b : Int), .int .i64 (n.n : Int)] 52)
  have hM0 := h.push (a := itBlk w.heap.size 52 #[.int .u8 (n.kind : Int), .string (mkS n.text), .int .i64 (n.a : Int), .int .i64 (n.b : Int), .int .i64 (n.n : Int)]) (w' := w.alloc (.cells #[.int .u8 (n.kind : Int), .string (mkS n.text), .int .i64 (n.a : Int), .int .i64 (n.b : Int), .int .i64 (n.n : Int)] 52)) (gb_of ((Below.refl w.heap.size w).alloc (Nat.le_refl _) _) none) (Blk.new w 52 #[.int .u8 (n.kind : Int), .string (mkS n.text), .int .i64 (n.a : Int), .int .i64 (n.b : Int), .int .i64 (n.n : Int)]) (fun k hk => by injection hk with hk; rw [← hk]; exact Nat.le_refl _)
  have hN := hk.max
  have hlen := hk.len
  obtain ⟨X', hX'⟩ : ∃ Y, Y = X ++ [itBlk w.heap.size 52 #[.int .u8 (n.kind : Int), .string (mkS n.text), .int .i64 (n.a : Int), .int .i64 (n.b : Int), .int .i64 (n.n : Int)]] := ⟨_, rfl⟩
  obtain ⟨bx, hbx⟩ : ∃ b, b = w.heap.size := ⟨_, rfl⟩
  have hbxP : Hid (∀ (o : Int) (i : Nat) (N : List Nod) (H : List Nat) (U : List (List Nat × Nat)) (wh cd : Nat) (W : World), RvM T0 last wrong B p X' o i N H U wh cd W → Blk W bx 52 #[.int .u8 (n.kind : Int), .string (mkS n.text), .int .i64 (n.a : Int), .int .i64 (n.b : Int), .int .i64 (n.n : Int)] ∧ RvM T0 last wrong B p X o i N H U wh cd W) := Lib.hid (fun o i N H U wh cd W hW => by
    rw [hX'] at hW
    rw [hbx]
    exact ⟨hW.last_, hW.pop⟩)
  rw [← hX'] at hM0
  obtain ⟨nN, hnN⟩ : ∃ k, k = st.N.length := ⟨_, rfl⟩
  generalize hW : w.alloc (.cells #[.int .u8 (n.kind : Int), .string (mkS n.text), .int .i64 (n.a : Int), .int .i64 (n.b : Int), .int .i64 (n.n : Int)] 52) = w1 at hM0 hBW ⊢
  have hbw : w.heap.size = bx := hbx.symm
  obtain ⟨A0, c0, a5, -⟩ : ∃ A c, w1.cell? ⟨p, 5, none⟩ = some (.slice A st.N.length c) ∧ True := by
    obtain ⟨vT, vN, vH, vL, h1, h4⟩ := hM0
    have hkb : Blk w1 p 47 (rvC vT wrong last i (oN : Int) vN vH vL 0 0) := h1.1 _ (List.mem_cons_self ..)
    have hrN : w1.ownsRow B 52 5 vN st.N.length (st.N.flatMap encN) := h1.1 (itRow B 52 5 vN st.N.length (st.N.flatMap encN)) (by simp)
    obtain ⟨AN, cN, rfl, -, -⟩ := own_form hrN
    exact ⟨_, _, hkb.cell 5, trivial⟩
  rw [← hnN] at a5 hN
  replace hX' := Lib.hid hX'
  replace hbx := Lib.hid hbx
  by_cases hfull : 4096 ≤ nN
  case pos =>
    have hfI : (4096 : Int) ≤ (nN : Int) := by omega
    have hr : addP n hgt at_ st = .no at_ 4 := by unfold addP; rw [if_pos (by omega)]
    rw [hr]
    have cF := Lib.hid (rvFault at_ 4 hM0)
    have hmid : Hid (hgt ≤ 1000) := Lib.hid hh
    replace hW := Lib.hid hW
    replace hnN := Lib.hid hnN
    replace hBW := Lib.hid hBW
    replace hk := Lib.hid hk
    replace hlen := Lib.hid hlen
    clear hr hfull hh hM0 h
    go_enter Tryz.func49, Tryz.ntmps49
    go_upto_region 1 with fail
    rw [hW.out]
    go_wp2_with fail
    refine cF.out.mono ?_
    rintro en w2 ⟨rfl, hM2, hB2⟩
    replace hB2 := Lib.hid (hBW.out.trans hB2)
    obtain ⟨wh, hwh⟩ : ∃ q, q = at_ := ⟨_, rfl⟩
    obtain ⟨cd, hcd⟩ : ∃ q, q = 4 := ⟨_, rfl⟩
    rw [← hwh, ← hcd] at hM2
    replace hwh := Lib.hid hwh
    replace hcd := Lib.hid hcd
    clear cF a5
    have hbk := (hbxP.out _ _ _ _ _ _ _ _ hM2).1
    have hB2s : B ≤ w2.heap.size := Nat.le_trans hBs hB2.out.size
    obtain ⟨vT, vN, vH, vL, h1, h4⟩ := hM2
    obtain ⟨o, ho⟩ : ∃ z : Int, z = (oN : Int) := ⟨_, rfl⟩
    obtain ⟨U, hU⟩ : ∃ u, u = st.L := ⟨_, rfl⟩
    rw [← ho, ← hU, ← hnN.out, hlen.out, ← hnN.out] at h1
    replace ho := Lib.hid ho
    replace hU := Lib.hid hU
    have hkb : Blk w2 p 47 (rvC vT wrong last i o vN vH vL wh cd) := h1.1 _ (List.mem_cons_self ..)
    have hrN : w2.ownsRow B 52 5 vN nN (st.N.flatMap encN) := h1.1 (itRow B 52 5 vN nN (st.N.flatMap encN)) (by simp)
    obtain ⟨AN, cN, rfl, -, -⟩ := own_form hrN
    have hrH : w2.ownsRow B 3 1 vH nN (st.H.flatMap encH) := h1.1 (itRow B 3 1 vH nN (st.H.flatMap encH)) (by simp)
    obtain ⟨AH, cH, rfl, -, -⟩ := own_form hrH
    have hap := Lib.hid (h1.apart (b := itRow B 52 5 (.slice AN nN cN) nN (st.N.flatMap encN)) (by simp) (k := p) rfl)
    have b0 : w2.cell? ⟨bx, 0, none⟩ = some (.int .u8 (n.kind : Int)) := hbk.cell 0
    have b1 : w2.cell? ⟨bx, 1, none⟩ = some (.string (mkS n.text)) := hbk.cell 1
    have b2 : w2.cell? ⟨bx, 2, none⟩ = some (.int .i64 (n.a : Int)) := hbk.cell 2
    have b3 : w2.cell? ⟨bx, 3, none⟩ = some (.int .i64 (n.b : Int)) := hbk.cell 3
    have b4 : w2.cell? ⟨bx, 4, none⟩ = some (.int .i64 (n.n : Int)) := hbk.cell 4
    have f6 : w2.frozen? ⟨p, 5, none⟩ = false := hkb.frozen 5
    have a6 : w2.cell? ⟨p, 5, none⟩ = some (.slice AN nN cN) := hkb.cell 5
    have a6H := Lib.hid a6
    have a6a : (w2.alloc (.cells #[.int .u8 (n.kind : Int), .string (mkS n.text), .int .i64 (n.a : Int), .int .i64 (n.b : Int), .int .i64 (n.n : Int)] 52)).cell? ⟨p, 5, none⟩ = some (.slice AN nN cN) := Lib.cell?_alloc_some _ a6
    have f6H := Lib.hid f6
    replace h1 := Lib.hid h1
    replace hkb := Lib.hid hkb
    replace hrN := Lib.hid hrN
    replace hrH := Lib.hid hrH
    replace hbk := Lib.hid hbk
    skip
    go_upto_region 5 with fail
    go_region_law ((refine step_append_lies _ (by rfl) _ _ _ (by rfl) B 52 j1 (.agg #[.int .u8 0, .string ⟨#[]⟩, .int .i64 0, .int .i64 0, .int .i64 0]) 5 48 Tryz.underlying22 ji jz0 jz1 jz2 rfl (by omega) (.slice AN nN cN) nN (st.N.flatMap encN) (by rfl) (World.ownsRow.alloc (World.ownsRow.drew hrN.out) _) ⟨w2.heap.size, 0, none⟩ 1 1 (encN n) (by rfl) rfl (news_blk (Blk.new _ 52 (encN n).toArray)) (encN_one n) (by omega) (by unfold maxLen; omega) (by omega) (by simp; omega) _ rfl ?_; intro ga ca w3 hown2 hgrow2 hat2 hlt2; obtain ⟨z1, z2⟩ := far_cell hgrow2 a6H.out f6H.out hap.out; replace hown2 := Lib.hid hown2; replace hgrow2 := Lib.hid hgrow2; replace hat2 := Lib.hid hat2; clear hlt2))
    all_goals
      have hS2 : Hid (Sep w3 ([itBlk p 47 (rvC vT wrong last i o (.slice AN nN cN) (.slice AH nN cH) vL wh cd), itRow B 67 2 vT T0.length (T0.flatMap encV), itRow B 52 5 (.slice (some ⟨ga, 0, none⟩) (nN + 1) ca) (nN + 1) (st.N.flatMap encN ++ encN n), itRow B 3 1 (.slice AH nN cH) nN (st.H.flatMap encH), itRow B 54 2 vL U.length (U.flatMap encL)] ++ X')) := Lib.hid (Sep.three ((h1.out.drewN 1).alloc (.cells #[.int .u8 (n.kind : Int), .string (mkS n.text), .int .i64 (n.a : Int), .int .i64 (n.b : Int), .int .i64 (n.n : Int)] 52)) hgrow2.out hown2.out (fun k hk => by
        have hk : (some ga : Option Nat) = some k := hk
        rcases hat2.out with h | h
        · exact .inl (h.trans hk)
        · refine .inr ?_
          injection hk with hk
          rw [← hk, h]
          exact Nat.le_refl _))
      have hB3 : Hid (Below B w w3) := Lib.hid ((hB2.out.drew.alloc hB2s (.cells #[.int .u8 (n.kind : Int), .string (mkS n.text), .int .i64 (n.a : Int), .int .i64 (n.b : Int), .int .i64 (n.n : Int)] 52)).grown hgrow2.out (by show B ≤ (w2.alloc _).heap.size; simp; omega) (fun q hq => (World.ownsRow.lt hrN.out q hq).1))
      have hS3 : Hid (Sep (w3.setCell ⟨p, 5, none⟩ (.slice (some ⟨ga, 0, none⟩) (nN + 1) ca)) ([itBlk p 47 (rvC vT wrong last i o (.slice (some ⟨ga, 0, none⟩) (nN + 1) ca) (.slice AH nN cH) vL wh cd), itRow B 67 2 vT T0.length (T0.flatMap encV), itRow B 52 5 (.slice (some ⟨ga, 0, none⟩) (nN + 1) ca) (nN + 1) (st.N.flatMap encN ++ encN n), itRow B 3 1 (.slice AH nN cH) nN (st.H.flatMap encH), itRow B 54 2 vL U.length (U.flatMap encL)] ++ X')) := Lib.hid (Sep.one hS2.out (gb_set (gb_refl w3 _) 5 (.slice (some ⟨ga, 0, none⟩) (nN + 1) ca)) (by
        have hb := Blk.set_ (hS2.out.1 _ (List.mem_cons_self ..)) 5 (.slice (some ⟨ga, 0, none⟩) (nN + 1) ca)
        exact hb) (fun k hk => .inl hk))
      have hB4 : Hid (Below B w (w3.setCell ⟨p, 5, none⟩ (.slice (some ⟨ga, 0, none⟩) (nN + 1) ca))) := Lib.hid (hB3.out.setCell (p := ⟨p, 5, none⟩) h4 _)
      clear z1 z2 hown2 hgrow2 hat2 hS2 hB3 h1 hkb hrN hrH hbk a6 a6a a6H f6H f6 b0 b1 b2 b3 b4 hap
      go_upto_region 6 with fail
      generalize w3.setCell ⟨p, 5, none⟩ (.slice (some ⟨ga, 0, none⟩) (nN + 1) ca) = w4 at hS3 hB4 ⊢
      have hk3 : Blk w4 p 47 (rvC vT wrong last i o (.slice (some ⟨ga, 0, none⟩) (nN + 1) ca) (.slice AH nN cH) vL wh cd) := hS3.out.1 _ (List.mem_cons_self ..)
      have hrH3 := Lib.hid (show w4.ownsRow B 3 1 (.slice AH nN cH) nN (st.H.flatMap encH) from hS3.out.1 (itRow B 3 1 (.slice AH nN cH) nN (st.H.flatMap encH)) (by simp))
      have a9 : w4.cell? ⟨p, 6, none⟩ = some (.slice AH nN cH) := hk3.cell 6
      have hB4s : B ≤ w4.heap.size := Nat.le_trans hBs hB4.out.size
      clear hk3
      go_wp2_with (at_builtin; refine wpList_append_own_at _ rfl _ _ 40 rfl B 3 i1 (.int .i64 0) 1 8 Tryz.underlying40 ii iz0 iz1 iz2 rfl (by decide) _ _ _ rfl (hrH3.out.alloc _) ⟨w4.heap.size, 0, none⟩ 1 1 (encH hgt) rfl rfl (news_blk (Blk.new w4 3 (encH hgt).toArray)) (fun u hu => by rw [List.mem_singleton.1 hu]; rfl) (by unfold maxLen; omega) (by omega) (by simp; omega) ?_)
      intro v8 w8 hown8 hgrow8 _ hloc8
      obtain ⟨A8, c8, rfl, -, -⟩ := own_form hown8
      have hS8 : Hid (Sep w8 ([itBlk p 47 (rvC vT wrong last i o (.slice (some ⟨ga, 0, none⟩) (nN + 1) ca) (.slice AH nN cH) vL wh cd), itRow B 67 2 vT T0.length (T0.flatMap encV), itRow B 52 5 (.slice (some ⟨ga, 0, none⟩) (nN + 1) ca) (nN + 1) (st.N.flatMap encN ++ encN n), itRow B 3 1 (.slice A8 (nN + 1) c8) (nN + 1) (st.H.flatMap encH ++ encH hgt), itRow B 54 2 vL U.length (U.flatMap encL)] ++ X')) := Lib.hid (Sep.four (hS3.out.alloc (.cells (encH hgt).toArray 3)) hgrow8 hown8 (fun k hk => by
        have hk : (Value.slice A8 (nN + 1) c8).ownBlock = some k := hk
        rcases hloc8 with h | h
        · exact .inl (h.symm.trans hk)
        · refine .inr ?_
          rw [h] at hk
          injection hk with hk
          rw [← hk]
          simp))
      have hB8 : Hid (Below B w w8) := Lib.hid ((hB4.out.alloc hB4s (.cells (encH hgt).toArray 3)).grown hgrow8 (by simp; omega) (fun q hq => (World.ownsRow.lt hrH3.out q hq).1))
      have hk8 : Blk w8 p 47 (rvC vT wrong last i o (.slice (some ⟨ga, 0, none⟩) (nN + 1) ca) (.slice AH nN cH) vL wh cd) := hS8.out.1 _ (List.mem_cons_self ..)
      have a9' : w8.cell? ⟨p, 6, none⟩ = some (.slice AH nN cH) := hk8.cell 6
      have f9 := hk8.frozen 6
      have a5' : w8.cell? ⟨p, 5, none⟩ = some (.slice (some ⟨ga, 0, none⟩) (nN + 1) ca) := hk8.cell 5
      have hS9 : Hid (Sep (w8.setCell ⟨p, 6, none⟩ (.slice A8 (nN + 1) c8)) ([itBlk p 47 (rvC vT wrong last i o (.slice (some ⟨ga, 0, none⟩) (nN + 1) ca) (.slice A8 (nN + 1) c8) vL wh cd), itRow B 67 2 vT T0.length (T0.flatMap encV), itRow B 52 5 (.slice (some ⟨ga, 0, none⟩) (nN + 1) ca) (nN + 1) (st.N.flatMap encN ++ encN n), itRow B 3 1 (.slice A8 (nN + 1) c8) (nN + 1) (st.H.flatMap encH ++ encH hgt), itRow B 54 2 vL U.length (U.flatMap encL)] ++ X')) := Lib.hid (Sep.one hS8.out (gb_set (gb_refl w8 _) 6 (.slice A8 (nN + 1) c8)) (by
        have hb := Blk.set_ (hS8.out.1 _ (List.mem_cons_self ..)) 6 (.slice A8 (nN + 1) c8)
        exact hb) (fun k hk => .inl hk))
      have hB9 : Hid (Below B w (w8.setCell ⟨p, 6, none⟩ (.slice A8 (nN + 1) c8))) := Lib.hid (hB8.out.setCell (p := ⟨p, 6, none⟩) h4 _)
      have hM9 : Hid (RvM T0 last wrong B p X' o i (st.N ++ [n]) (st.H ++ [hgt]) U wh cd (w8.setCell ⟨p, 6, none⟩ (.slice A8 (nN + 1) c8))) := Lib.hid (by
        refine ⟨vT, (.slice (some ⟨ga, 0, none⟩) (nN + 1) ca), (.slice A8 (nN + 1) c8), vL, ?_, h4⟩
        simp only [List.length_append, List.length_singleton, List.flatMap_append, List.flatMap_singleton]
        rw [hlen.out, ← hnN.out]
        exact hS9.out)
      have a5'' : (w8.setCell ⟨p, 6, none⟩ (.slice A8 (nN + 1) c8)).cell? ⟨p, 5, none⟩ = some (.slice (some ⟨ga, 0, none⟩) (nN + 1) ca) := by
        have hk9 : Blk _ p 47 (rvC vT wrong last i o (.slice (some ⟨ga, 0, none⟩) (nN + 1) ca) (.slice A8 (nN + 1) c8) vL wh cd) := hS9.out.1 _ (List.mem_cons_self ..)
        exact hk9.cell 5
      rw [ho.out, hU.out] at hM9
      clear hk8 hown8 hgrow8 hloc8 hS3 hB4 hS8 hB8 hrH3 a9 hS9
      have hw1 : IntKind.i64.wrap (((nN + 1 : Nat) : Int) - 1) = (nN : Int) := by rw [IntKind.wrap_i64]; omega
      go_wp2_with fail
      go_ret
      have h8 := (hbxP.out _ _ _ _ _ _ _ _ hM9.out).2
      rw [hwh.out, hcd.out] at h8
      exact ⟨⟨_, rfl⟩, ⟨_, _, _, _, h8⟩, hB9.out, by decide⟩
  case neg =>
    have hfI : ¬ (4096 : Int) ≤ (nN : Int) := by omega
    by_cases hdeep : 64 < hgt
    case pos =>
      have hdI : (64 : Int) < (hgt : Int) := by omega
      have hr : addP n hgt at_ st = .no at_ 114 := by unfold addP; rw [if_neg (by omega), if_pos hdeep]
      rw [hr]
      have cF := Lib.hid (rvFault at_ 114 hM0)
      replace hW := Lib.hid hW
      replace hnN := Lib.hid hnN
      replace hBW := Lib.hid hBW
      replace hk := Lib.hid hk
      replace hlen := Lib.hid hlen
      clear hr hfull hh hM0 h hdeep
      go_enter Tryz.func49, Tryz.ntmps49
      go_upto_region 1 with fail
      rw [hW.out]
      go_wp2_with fail
      refine cF.out.mono ?_
      rintro en w2 ⟨rfl, hM2, hB2⟩
      replace hB2 := Lib.hid (hBW.out.trans hB2)
      obtain ⟨wh, hwh⟩ : ∃ q, q = at_ := ⟨_, rfl⟩
      obtain ⟨cd, hcd⟩ : ∃ q, q = 114 := ⟨_, rfl⟩
      rw [← hwh, ← hcd] at hM2
      replace hwh := Lib.hid hwh
      replace hcd := Lib.hid hcd
      clear cF a5 hdI
      have hbk := (hbxP.out _ _ _ _ _ _ _ _ hM2).1
      have hB2s : B ≤ w2.heap.size := Nat.le_trans hBs hB2.out.size
      obtain ⟨vT, vN, vH, vL, h1, h4⟩ := hM2
      obtain ⟨o, ho⟩ : ∃ z : Int, z = (oN : Int) := ⟨_, rfl⟩
      obtain ⟨U, hU⟩ : ∃ u, u = st.L := ⟨_, rfl⟩
      rw [← ho, ← hU, ← hnN.out, hlen.out, ← hnN.out] at h1
      replace ho := Lib.hid ho
      replace hU := Lib.hid hU
      have hkb : Blk w2 p 47 (rvC vT wrong last i o vN vH vL wh cd) := h1.1 _ (List.mem_cons_self ..)
      have hrN : w2.ownsRow B 52 5 vN nN (st.N.flatMap encN) := h1.1 (itRow B 52 5 vN nN (st.N.flatMap encN)) (by simp)
      obtain ⟨AN, cN, rfl, -, -⟩ := own_form hrN
      have hrH : w2.ownsRow B 3 1 vH nN (st.H.flatMap encH) := h1.1 (itRow B 3 1 vH nN (st.H.flatMap encH)) (by simp)
      obtain ⟨AH, cH, rfl, -, -⟩ := own_form hrH
      have hap := Lib.hid (h1.apart (b := itRow B 52 5 (.slice AN nN cN) nN (st.N.flatMap encN)) (by simp) (k := p) rfl)
      have b0 : w2.cell? ⟨bx, 0, none⟩ = some (.int .u8 (n.kind : Int)) := hbk.cell 0
      have b1 : w2.cell? ⟨bx, 1, none⟩ = some (.string (mkS n.text)) := hbk.cell 1
      have b2 : w2.cell? ⟨bx, 2, none⟩ = some (.int .i64 (n.a : Int)) := hbk.cell 2
      have b3 : w2.cell? ⟨bx, 3, none⟩ = some (.int .i64 (n.b : Int)) := hbk.cell 3
      have b4 : w2.cell? ⟨bx, 4, none⟩ = some (.int .i64 (n.n : Int)) := hbk.cell 4
      have f6 : w2.frozen? ⟨p, 5, none⟩ = false := hkb.frozen 5
      have a6 : w2.cell? ⟨p, 5, none⟩ = some (.slice AN nN cN) := hkb.cell 5
      have a6H := Lib.hid a6
      have a6a : (w2.alloc (.cells #[.int .u8 (n.kind : Int), .string (mkS n.text), .int .i64 (n.a : Int), .int .i64 (n.b : Int), .int .i64 (n.n : Int)] 52)).cell? ⟨p, 5, none⟩ = some (.slice AN nN cN) := Lib.cell?_alloc_some _ a6
      have f6H := Lib.hid f6
      replace h1 := Lib.hid h1
      replace hkb := Lib.hid hkb
      replace hrN := Lib.hid hrN
      replace hrH := Lib.hid hrH
      replace hbk := Lib.hid hbk
      skip
      go_upto_region 5 with fail
      go_region_law ((refine step_append_lies _ (by rfl) _ _ _ (by rfl) B 52 j1 (.agg #[.int .u8 0, .string ⟨#[]⟩, .int .i64 0, .int .i64 0, .int .i64 0]) 5 48 Tryz.underlying22 ji jz0 jz1 jz2 rfl (by omega) (.slice AN nN cN) nN (st.N.flatMap encN) (by rfl) (World.ownsRow.alloc (World.ownsRow.drew hrN.out) _) ⟨w2.heap.size, 0, none⟩ 1 1 (encN n) (by rfl) rfl (news_blk (Blk.new _ 52 (encN n).toArray)) (encN_one n) (by omega) (by unfold maxLen; omega) (by omega) (by simp; omega) _ rfl ?_; intro ga ca w3 hown2 hgrow2 hat2 hlt2; obtain ⟨z1, z2⟩ := far_cell hgrow2 a6H.out f6H.out hap.out; replace hown2 := Lib.hid hown2; replace hgrow2 := Lib.hid hgrow2; replace hat2 := Lib.hid hat2; clear hlt2))
      all_goals
        have hS2 : Hid (Sep w3 ([itBlk p 47 (rvC vT wrong last i o (.slice AN nN cN) (.slice AH nN cH) vL wh cd), itRow B 67 2 vT T0.length (T0.flatMap encV), itRow B 52 5 (.slice (some ⟨ga, 0, none⟩) (nN + 1) ca) (nN + 1) (st.N.flatMap encN ++ encN n), itRow B 3 1 (.slice AH nN cH) nN (st.H.flatMap encH), itRow B 54 2 vL U.length (U.flatMap encL)] ++ X')) := Lib.hid (Sep.three ((h1.out.drewN 1).alloc (.cells #[.int .u8 (n.kind : Int), .string (mkS n.text), .int .i64 (n.a : Int), .int .i64 (n.b : Int), .int .i64 (n.n : Int)] 52)) hgrow2.out hown2.out (fun k hk => by
          have hk : (some ga : Option Nat) = some k := hk
          rcases hat2.out with h | h
          · exact .inl (h.trans hk)
          · refine .inr ?_
            injection hk with hk
            rw [← hk, h]
            exact Nat.le_refl _))
        have hB3 : Hid (Below B w w3) := Lib.hid ((hB2.out.drew.alloc hB2s (.cells #[.int .u8 (n.kind : Int), .string (mkS n.text), .int .i64 (n.a : Int), .int .i64 (n.b : Int), .int .i64 (n.n : Int)] 52)).grown hgrow2.out (by show B ≤ (w2.alloc _).heap.size; simp; omega) (fun q hq => (World.ownsRow.lt hrN.out q hq).1))
        have hS3 : Hid (Sep (w3.setCell ⟨p, 5, none⟩ (.slice (some ⟨ga, 0, none⟩) (nN + 1) ca)) ([itBlk p 47 (rvC vT wrong last i o (.slice (some ⟨ga, 0, none⟩) (nN + 1) ca) (.slice AH nN cH) vL wh cd), itRow B 67 2 vT T0.length (T0.flatMap encV), itRow B 52 5 (.slice (some ⟨ga, 0, none⟩) (nN + 1) ca) (nN + 1) (st.N.flatMap encN ++ encN n), itRow B 3 1 (.slice AH nN cH) nN (st.H.flatMap encH), itRow B 54 2 vL U.length (U.flatMap encL)] ++ X')) := Lib.hid (Sep.one hS2.out (gb_set (gb_refl w3 _) 5 (.slice (some ⟨ga, 0, none⟩) (nN + 1) ca)) (by
          have hb := Blk.set_ (hS2.out.1 _ (List.mem_cons_self ..)) 5 (.slice (some ⟨ga, 0, none⟩) (nN + 1) ca)
          exact hb) (fun k hk => .inl hk))
        have hB4 : Hid (Below B w (w3.setCell ⟨p, 5, none⟩ (.slice (some ⟨ga, 0, none⟩) (nN + 1) ca))) := Lib.hid (hB3.out.setCell (p := ⟨p, 5, none⟩) h4 _)
        clear z1 z2 hown2 hgrow2 hat2 hS2 hB3 h1 hkb hrN hrH hbk a6 a6a a6H f6H f6 b0 b1 b2 b3 b4 hap
        go_upto_region 6 with fail
        generalize w3.setCell ⟨p, 5, none⟩ (.slice (some ⟨ga, 0, none⟩) (nN + 1) ca) = w4 at hS3 hB4 ⊢
        have hk3 : Blk w4 p 47 (rvC vT wrong last i o (.slice (some ⟨ga, 0, none⟩) (nN + 1) ca) (.slice AH nN cH) vL wh cd) := hS3.out.1 _ (List.mem_cons_self ..)
        have hrH3 := Lib.hid (show w4.ownsRow B 3 1 (.slice AH nN cH) nN (st.H.flatMap encH) from hS3.out.1 (itRow B 3 1 (.slice AH nN cH) nN (st.H.flatMap encH)) (by simp))
        have a9 : w4.cell? ⟨p, 6, none⟩ = some (.slice AH nN cH) := hk3.cell 6
        have hB4s : B ≤ w4.heap.size := Nat.le_trans hBs hB4.out.size
        clear hk3
        go_wp2_with (at_builtin; refine wpList_append_own_at _ rfl _ _ 40 rfl B 3 i1 (.int .i64 0) 1 8 Tryz.underlying40 ii iz0 iz1 iz2 rfl (by decide) _ _ _ rfl (hrH3.out.alloc _) ⟨w4.heap.size, 0, none⟩ 1 1 (encH hgt) rfl rfl (news_blk (Blk.new w4 3 (encH hgt).toArray)) (fun u hu => by rw [List.mem_singleton.1 hu]; rfl) (by unfold maxLen; omega) (by omega) (by simp; omega) ?_)
        intro v8 w8 hown8 hgrow8 _ hloc8
        obtain ⟨A8, c8, rfl, -, -⟩ := own_form hown8
        have hS8 : Hid (Sep w8 ([itBlk p 47 (rvC vT wrong last i o (.slice (some ⟨ga, 0, none⟩) (nN + 1) ca) (.slice AH nN cH) vL wh cd), itRow B 67 2 vT T0.length (T0.flatMap encV), itRow B 52 5 (.slice (some ⟨ga, 0, none⟩) (nN + 1) ca) (nN + 1) (st.N.flatMap encN ++ encN n), itRow B 3 1 (.slice A8 (nN + 1) c8) (nN + 1) (st.H.flatMap encH ++ encH hgt), itRow B 54 2 vL U.length (U.flatMap encL)] ++ X')) := Lib.hid (Sep.four (hS3.out.alloc (.cells (encH hgt).toArray 3)) hgrow8 hown8 (fun k hk => by
          have hk : (Value.slice A8 (nN + 1) c8).ownBlock = some k := hk
          rcases hloc8 with h | h
          · exact .inl (h.symm.trans hk)
          · refine .inr ?_
            rw [h] at hk
            injection hk with hk
            rw [← hk]
            simp))
        have hB8 : Hid (Below B w w8) := Lib.hid ((hB4.out.alloc hB4s (.cells (encH hgt).toArray 3)).grown hgrow8 (by simp; omega) (fun q hq => (World.ownsRow.lt hrH3.out q hq).1))
        have hk8 : Blk w8 p 47 (rvC vT wrong last i o (.slice (some ⟨ga, 0, none⟩) (nN + 1) ca) (.slice AH nN cH) vL wh cd) := hS8.out.1 _ (List.mem_cons_self ..)
        have a9' : w8.cell? ⟨p, 6, none⟩ = some (.slice AH nN cH) := hk8.cell 6
        have f9 := hk8.frozen 6
        have a5' : w8.cell? ⟨p, 5, none⟩ = some (.slice (some ⟨ga, 0, none⟩) (nN + 1) ca) := hk8.cell 5
        have hS9 : Hid (Sep (w8.setCell ⟨p, 6, none⟩ (.slice A8 (nN + 1) c8)) ([itBlk p 47 (rvC vT wrong last i o (.slice (some ⟨ga, 0, none⟩) (nN + 1) ca) (.slice A8 (nN + 1) c8) vL wh cd), itRow B 67 2 vT T0.length (T0.flatMap encV), itRow B 52 5 (.slice (some ⟨ga, 0, none⟩) (nN + 1) ca) (nN + 1) (st.N.flatMap encN ++ encN n), itRow B 3 1 (.slice A8 (nN + 1) c8) (nN + 1) (st.H.flatMap encH ++ encH hgt), itRow B 54 2 vL U.length (U.flatMap encL)] ++ X')) := Lib.hid (Sep.one hS8.out (gb_set (gb_refl w8 _) 6 (.slice A8 (nN + 1) c8)) (by
          have hb := Blk.set_ (hS8.out.1 _ (List.mem_cons_self ..)) 6 (.slice A8 (nN + 1) c8)
          exact hb) (fun k hk => .inl hk))
        have hB9 : Hid (Below B w (w8.setCell ⟨p, 6, none⟩ (.slice A8 (nN + 1) c8))) := Lib.hid (hB8.out.setCell (p := ⟨p, 6, none⟩) h4 _)
        have hM9 : Hid (RvM T0 last wrong B p X' o i (st.N ++ [n]) (st.H ++ [hgt]) U wh cd (w8.setCell ⟨p, 6, none⟩ (.slice A8 (nN + 1) c8))) := Lib.hid (by
          refine ⟨vT, (.slice (some ⟨ga, 0, none⟩) (nN + 1) ca), (.slice A8 (nN + 1) c8), vL, ?_, h4⟩
          simp only [List.length_append, List.length_singleton, List.flatMap_append, List.flatMap_singleton]
          rw [hlen.out, ← hnN.out]
          exact hS9.out)
        have a5'' : (w8.setCell ⟨p, 6, none⟩ (.slice A8 (nN + 1) c8)).cell? ⟨p, 5, none⟩ = some (.slice (some ⟨ga, 0, none⟩) (nN + 1) ca) := by
          have hk9 : Blk _ p 47 (rvC vT wrong last i o (.slice (some ⟨ga, 0, none⟩) (nN + 1) ca) (.slice A8 (nN + 1) c8) vL wh cd) := hS9.out.1 _ (List.mem_cons_self ..)
          exact hk9.cell 5
        rw [ho.out, hU.out] at hM9
        clear hk8 hown8 hgrow8 hloc8 hS3 hB4 hS8 hB8 hrH3 a9 hS9
        have hw1 : IntKind.i64.wrap (((nN + 1 : Nat) : Int) - 1) = (nN : Int) := by rw [IntKind.wrap_i64]; omega
        go_wp2_with fail
        go_ret
        have h8 := (hbxP.out _ _ _ _ _ _ _ _ hM9.out).2
        rw [hwh.out, hcd.out] at h8
        exact ⟨⟨_, rfl⟩, ⟨_, _, _, _, h8⟩, hB9.out, by decide⟩
    case neg =>
      have hdI : ¬ (64 : Int) < (hgt : Int) := by omega
      have hr : addP n hgt at_ st = .ok st.N.length { st with N := st.N ++ [n], H := st.H ++ [hgt] } := by unfold addP; rw [if_neg (by omega), if_neg hdeep]
      rw [hr, ← hnN]
      have hk2 := Lib.hid (hk.add n hgt (by omega) (by omega))
      replace hW := Lib.hid hW
      replace hnN := Lib.hid hnN
      have hB2 := Lib.hid hBW
      replace hk := Lib.hid hk
      replace hlen := Lib.hid hlen
      obtain ⟨wh, hwh⟩ : ∃ q, q = 0 := ⟨_, rfl⟩
      obtain ⟨cd, hcd⟩ : ∃ q, q = 0 := ⟨_, rfl⟩
      have hM2 : RvM T0 last wrong B p X' (oN : Int) i st.N st.H st.L wh cd w1 := by rw [hwh, hcd]; exact hM0
      replace hwh := Lib.hid hwh
      replace hcd := Lib.hid hcd
      clear hr hfull hh hM0 h hdeep hBW
      go_enter Tryz.func49, Tryz.ntmps49
      go_upto_region 1 with fail
      rw [hW.out]
      go_upto_region 5 with fail
      generalize hw2e : w1 = w2 at hM2 hB2 hW a5 ⊢
      clear hw2e hdI
      have hbk := (hbxP.out _ _ _ _ _ _ _ _ hM2).1
      have hB2s : B ≤ w2.heap.size := Nat.le_trans hBs hB2.out.size
      obtain ⟨vT, vN, vH, vL, h1, h4⟩ := hM2
      obtain ⟨o, ho⟩ : ∃ z : Int, z = (oN : Int) := ⟨_, rfl⟩
      obtain ⟨U, hU⟩ : ∃ u, u = st.L := ⟨_, rfl⟩
      rw [← ho, ← hU, ← hnN.out, hlen.out, ← hnN.out] at h1
      replace ho := Lib.hid ho
      replace hU := Lib.hid hU
      have hkb : Blk w2 p 47 (rvC vT wrong last i o vN vH vL wh cd) := h1.1 _ (List.mem_cons_self ..)
      have hrN : w2.ownsRow B 52 5 vN nN (st.N.flatMap encN) := h1.1 (itRow B 52 5 vN nN (st.N.flatMap encN)) (by simp)
      obtain ⟨AN, cN, rfl, -, -⟩ := own_form hrN
      have hrH : w2.ownsRow B 3 1 vH nN (st.H.flatMap encH) := h1.1 (itRow B 3 1 vH nN (st.H.flatMap encH)) (by simp)
      obtain ⟨AH, cH, rfl, -, -⟩ := own_form hrH
      have hap := Lib.hid (h1.apart (b := itRow B 52 5 (.slice AN nN cN) nN (st.N.flatMap encN)) (by simp) (k := p) rfl)
      have b0 : w2.cell? ⟨bx, 0, none⟩ = some (.int .u8 (n.kind : Int)) := hbk.cell 0
      have b1 : w2.cell? ⟨bx, 1, none⟩ = some (.string (mkS n.text)) := hbk.cell 1
      have b2 : w2.cell? ⟨bx, 2, none⟩ = some (.int .i64 (n.a : Int)) := hbk.cell 2
      have b3 : w2.cell? ⟨bx, 3, none⟩ = some (.int .i64 (n.b : Int)) := hbk.cell 3
      have b4 : w2.cell? ⟨bx, 4, none⟩ = some (.int .i64 (n.n : Int)) := hbk.cell 4
      have f6 : w2.frozen? ⟨p, 5, none⟩ = false := hkb.frozen 5
      have a6 : w2.cell? ⟨p, 5, none⟩ = some (.slice AN nN cN) := hkb.cell 5
      have a6H := Lib.hid a6
      have a6a : (w2.alloc (.cells #[.int .u8 (n.kind : Int), .string (mkS n.text), .int .i64 (n.a : Int), .int .i64 (n.b : Int), .int .i64 (n.n : Int)] 52)).cell? ⟨p, 5, none⟩ = some (.slice AN nN cN) := Lib.cell?_alloc_some _ a6
      have f6H := Lib.hid f6
      replace h1 := Lib.hid h1
      replace hkb := Lib.hid hkb
      replace hrN := Lib.hid hrN
      replace hrH := Lib.hid hrH
      replace hbk := Lib.hid hbk
      clear a5
      go_upto_region 5 with fail
      go_region_law ((refine step_append_lies _ (by rfl) _ _ _ (by rfl) B 52 j1 (.agg #[.int .u8 0, .string ⟨#[]⟩, .int .i64 0, .int .i64 0, .int .i64 0]) 5 48 Tryz.underlying22 ji jz0 jz1 jz2 rfl (by omega) (.slice AN nN cN) nN (st.N.flatMap encN) (by rfl) (World.ownsRow.alloc (World.ownsRow.drew hrN.out) _) ⟨w2.heap.size, 0, none⟩ 1 1 (encN n) (by rfl) rfl (news_blk (Blk.new _ 52 (encN n).toArray)) (encN_one n) (by omega) (by unfold maxLen; omega) (by omega) (by simp; omega) _ rfl ?_; intro ga ca w3 hown2 hgrow2 hat2 hlt2; obtain ⟨z1, z2⟩ := far_cell hgrow2 a6H.out f6H.out hap.out; replace hown2 := Lib.hid hown2; replace hgrow2 := Lib.hid hgrow2; replace hat2 := Lib.hid hat2; clear hlt2))
      all_goals
        have hS2 : Hid (Sep w3 ([itBlk p 47 (rvC vT wrong last i o (.slice AN nN cN) (.slice AH nN cH) vL wh cd), itRow B 67 2 vT T0.length (T0.flatMap encV), itRow B 52 5 (.slice (some ⟨ga, 0, none⟩) (nN + 1) ca) (nN + 1) (st.N.flatMap encN ++ encN n), itRow B 3 1 (.slice AH nN cH) nN (st.H.flatMap encH), itRow B 54 2 vL U.length (U.flatMap encL)] ++ X')) := Lib.hid (Sep.three ((h1.out.drewN 1).alloc (.cells #[.int .u8 (n.kind : Int), .string (mkS n.text), .int .i64 (n.a : Int), .int .i64 (n.b : Int), .int .i64 (n.n : Int)] 52)) hgrow2.out hown2.out (fun k hk => by
          have hk : (some ga : Option Nat) = some k := hk
          rcases hat2.out with h | h
          · exact .inl (h.trans hk)
          · refine .inr ?_
            injection hk with hk
            rw [← hk, h]
            exact Nat.le_refl _))
        have hB3 : Hid (Below B w w3) := Lib.hid ((hB2.out.drew.alloc hB2s (.cells #[.int .u8 (n.kind : Int), .string (mkS n.text), .int .i64 (n.a : Int), .int .i64 (n.b : Int), .int .i64 (n.n : Int)] 52)).grown hgrow2.out (by show B ≤ (w2.alloc _).heap.size; simp; omega) (fun q hq => (World.ownsRow.lt hrN.out q hq).1))
        have hS3 : Hid (Sep (w3.setCell ⟨p, 5, none⟩ (.slice (some ⟨ga, 0, none⟩) (nN + 1) ca)) ([itBlk p 47 (rvC vT wrong last i o (.slice (some ⟨ga, 0, none⟩) (nN + 1) ca) (.slice AH nN cH) vL wh cd), itRow B 67 2 vT T0.length (T0.flatMap encV), itRow B 52 5 (.slice (some ⟨ga, 0, none⟩) (nN + 1) ca) (nN + 1) (st.N.flatMap encN ++ encN n), itRow B 3 1 (.slice AH nN cH) nN (st.H.flatMap encH), itRow B 54 2 vL U.length (U.flatMap encL)] ++ X')) := Lib.hid (Sep.one hS2.out (gb_set (gb_refl w3 _) 5 (.slice (some ⟨ga, 0, none⟩) (nN + 1) ca)) (by
          have hb := Blk.set_ (hS2.out.1 _ (List.mem_cons_self ..)) 5 (.slice (some ⟨ga, 0, none⟩) (nN + 1) ca)
          exact hb) (fun k hk => .inl hk))
        have hB4 : Hid (Below B w (w3.setCell ⟨p, 5, none⟩ (.slice (some ⟨ga, 0, none⟩) (nN + 1) ca))) := Lib.hid (hB3.out.setCell (p := ⟨p, 5, none⟩) h4 _)
        clear z1 z2 hown2 hgrow2 hat2 hS2 hB3 h1 hkb hrN hrH hbk a6 a6a a6H f6H f6 b0 b1 b2 b3 b4 hap
        go_upto_region 6 with fail
        generalize w3.setCell ⟨p, 5, none⟩ (.slice (some ⟨ga, 0, none⟩) (nN + 1) ca) = w4 at hS3 hB4 ⊢
        have hk3 : Blk w4 p 47 (rvC vT wrong last i o (.slice (some ⟨ga, 0, none⟩) (nN + 1) ca) (.slice AH nN cH) vL wh cd) := hS3.out.1 _ (List.mem_cons_self ..)
        have hrH3 := Lib.hid (show w4.ownsRow B 3 1 (.slice AH nN cH) nN (st.H.flatMap encH) from hS3.out.1 (itRow B 3 1 (.slice AH nN cH) nN (st.H.flatMap encH)) (by simp))
        have a9 : w4.cell? ⟨p, 6, none⟩ = some (.slice AH nN cH) := hk3.cell 6
        have hB4s : B ≤ w4.heap.size := Nat.le_trans hBs hB4.out.size
        clear hk3
        go_wp2_with (at_builtin; refine wpList_append_own_at _ rfl _ _ 40 rfl B 3 i1 (.int .i64 0) 1 8 Tryz.underlying40 ii iz0 iz1 iz2 rfl (by decide) _ _ _ rfl (hrH3.out.alloc _) ⟨w4.heap.size, 0, none⟩ 1 1 (encH hgt) rfl rfl (news_blk (Blk.new w4 3 (encH hgt).toArray)) (fun u hu => by rw [List.mem_singleton.1 hu]; rfl) (by unfold maxLen; omega) (by omega) (by simp; omega) ?_)
        intro v8 w8 hown8 hgrow8 _ hloc8
        obtain ⟨A8, c8, rfl, -, -⟩ := own_form hown8
        have hS8 : Hid (Sep w8 ([itBlk p 47 (rvC vT wrong last i o (.slice (some ⟨ga, 0, none⟩) (nN + 1) ca) (.slice AH nN cH) vL wh cd), itRow B 67 2 vT T0.length (T0.flatMap encV), itRow B 52 5 (.slice (some ⟨ga, 0, none⟩) (nN + 1) ca) (nN + 1) (st.N.flatMap encN ++ encN n), itRow B 3 1 (.slice A8 (nN + 1) c8) (nN + 1) (st.H.flatMap encH ++ encH hgt), itRow B 54 2 vL U.length (U.flatMap encL)] ++ X')) := Lib.hid (Sep.four (hS3.out.alloc (.cells (encH hgt).toArray 3)) hgrow8 hown8 (fun k hk => by
          have hk : (Value.slice A8 (nN + 1) c8).ownBlock = some k := hk
          rcases hloc8 with h | h
          · exact .inl (h.symm.trans hk)
          · refine .inr ?_
            rw [h] at hk
            injection hk with hk
            rw [← hk]
            simp))
        have hB8 : Hid (Below B w w8) := Lib.hid ((hB4.out.alloc hB4s (.cells (encH hgt).toArray 3)).grown hgrow8 (by simp; omega) (fun q hq => (World.ownsRow.lt hrH3.out q hq).1))
        have hk8 : Blk w8 p 47 (rvC vT wrong last i o (.slice (some ⟨ga, 0, none⟩) (nN + 1) ca) (.slice AH nN cH) vL wh cd) := hS8.out.1 _ (List.mem_cons_self ..)
        have a9' : w8.cell? ⟨p, 6, none⟩ = some (.slice AH nN cH) := hk8.cell 6
        have f9 := hk8.frozen 6
        have a5' : w8.cell? ⟨p, 5, none⟩ = some (.slice (some ⟨ga, 0, none⟩) (nN + 1) ca) := hk8.cell 5
        have hS9 : Hid (Sep (w8.setCell ⟨p, 6, none⟩ (.slice A8 (nN + 1) c8)) ([itBlk p 47 (rvC vT wrong last i o (.slice (some ⟨ga, 0, none⟩) (nN + 1) ca) (.slice A8 (nN + 1) c8) vL wh cd), itRow B 67 2 vT T0.length (T0.flatMap encV), itRow B 52 5 (.slice (some ⟨ga, 0, none⟩) (nN + 1) ca) (nN + 1) (st.N.flatMap encN ++ encN n), itRow B 3 1 (.slice A8 (nN + 1) c8) (nN + 1) (st.H.flatMap encH ++ encH hgt), itRow B 54 2 vL U.length (U.flatMap encL)] ++ X')) := Lib.hid (Sep.one hS8.out (gb_set (gb_refl w8 _) 6 (.slice A8 (nN + 1) c8)) (by
          have hb := Blk.set_ (hS8.out.1 _ (List.mem_cons_self ..)) 6 (.slice A8 (nN + 1) c8)
          exact hb) (fun k hk => .inl hk))
        have hB9 : Hid (Below B w (w8.setCell ⟨p, 6, none⟩ (.slice A8 (nN + 1) c8))) := Lib.hid (hB8.out.setCell (p := ⟨p, 6, none⟩) h4 _)
        have hM9 : Hid (RvM T0 last wrong B p X' o i (st.N ++ [n]) (st.H ++ [hgt]) U wh cd (w8.setCell ⟨p, 6, none⟩ (.slice A8 (nN + 1) c8))) := Lib.hid (by
          refine ⟨vT, (.slice (some ⟨ga, 0, none⟩) (nN + 1) ca), (.slice A8 (nN + 1) c8), vL, ?_, h4⟩
          simp only [List.length_append, List.length_singleton, List.flatMap_append, List.flatMap_singleton]
          rw [hlen.out, ← hnN.out]
          exact hS9.out)
        have a5'' : (w8.setCell ⟨p, 6, none⟩ (.slice A8 (nN + 1) c8)).cell? ⟨p, 5, none⟩ = some (.slice (some ⟨ga, 0, none⟩) (nN + 1) ca) := by
          have hk9 : Blk _ p 47 (rvC vT wrong last i o (.slice (some ⟨ga, 0, none⟩) (nN + 1) ca) (.slice A8 (nN + 1) c8) vL wh cd) := hS9.out.1 _ (List.mem_cons_self ..)
          exact hk9.cell 5
        rw [ho.out, hU.out] at hM9
        clear hk8 hown8 hgrow8 hloc8 hS3 hB4 hS8 hB8 hrH3 a9 hS9
        have hw1 : IntKind.i64.wrap (((nN + 1 : Nat) : Int) - 1) = (nN : Int) := by rw [IntKind.wrap_i64]; omega
        go_wp2_with fail
        go_ret
        refine ⟨rfl, ⟨i, ?_, hk2.out⟩, hB9.out, ?_, ?_⟩
        · have h8 := (hbxP.out _ _ _ _ _ _ _ _ hM9.out).2
          rw [hwh.out, hcd.out] at h8
          exact h8
        · show nN < (st.N ++ [n]).length
          rw [List.length_append, ← hnN.out]; simp
        · show st.N.length ≤ (st.N ++ [n]).length
          rw [List.length_append]; omega
end
end Go.Proofs.YtnaadajcehfmiaaGreatDoor
