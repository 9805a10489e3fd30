/- lang: add. -/
import Derived.Test.YtnaadajcehfmiaaGreatDoorLrC
namespace Go.Proofs.YtnaadajcehfmiaaGreatDoor
open Go.RowKit Go.Sort Go.Maps

theorem Sep.two {w w' : World} {a b b' : It} {l : List It} (h : Sep w (a :: b :: l)) (hg : w.grownBy w' b.own) (hP : b'.P w') (hloc : ∀ k, b'.own = some k → b.own = some k ∨ w.heap.size ≤ k) : Sep w' (a :: b' :: l) := Sep.upd (A := [a]) h hg hP hloc
theorem Sep.four {w w' : World} {a b c d d' : It} {l : List It} (h : Sep w (a :: b :: c :: d :: l)) (hg : w.grownBy w' d.own) (hP : d'.P w') (hloc : ∀ k, d'.own = some k → d.own = some k ∨ w.heap.size ≤ k) : Sep w' (a :: b :: c :: d' :: l) := Sep.upd (A := [a, b, c]) h hg hP hloc
theorem Sep.one {w w' : World} {a a' : It} {l : List It} (h : Sep w (a :: l)) (hg : w.grownBy w' a.own) (hP : a'.P w') (hloc : ∀ k, a'.own = some k → a.own = some k ∨ w.heap.size ≤ k) : Sep w' (a' :: l) := Sep.upd (A := []) h hg hP hloc
theorem Sep.apart {w : World} {a : It} {l : List It} (h : Sep w (a :: l)) {b : It} (hb : b ∈ l) {k : Nat} (ha : a.own = some k) : some k ≠ b.own := fun e => (List.pairwise_cons.1 h.2).1 b hb k ha e.symm
section
variable {s : ByteArray} {last : Nat} {wrong : Bool} {B p gm o : Nat} {X : List It} {st : PS} {w w' : World}
/-- How a method with a place ends. -/
def PostN (s : ByteArray) (last : Nat) (wrong : Bool) (B p gm : Nat) (X : List It) (o : Nat) (st : PS) (w : World) (r : PR Nat) (e : Ending) (w' : World) : Prop :=
  match r with
  | .ok v st' => e = .returned (.int .i64 (v : Int)) ∧ RdS s last wrong B p gm X o st' w' ∧ Below B w w' ∧ v < st'.N.length ∧ st.N.length ≤ st'.N.length
  | .no a c => PanF B a c w e w'
set_option maxRecDepth 100000 in
set_option maxHeartbeats 4000000 in
/-- add -/
theorem add_rd (n : Nod) (hgt at_ : Nat) (h : RdS s last wrong B p gm X o st w) (hh : hgt ≤ 1000) :
    Calls Tryz.prog 76 #[.pointer (some ⟨p, 0, none⟩), .agg #[.int .u8 (n.kind : Int), .string (mkS n.text), .int .i64 (n.a : Int), .int .i64 (n.b : Int), .int .i64 (n.n : Int)], .int .i64 (hgt : Int), .int .i64 (at_ : Int)] w (PostN s last wrong B p gm X o st w (addP n hgt at_ st)) := by
  obtain ⟨j1, ji, jz0, jz1, jz2⟩ := info_parts info_node
  obtain ⟨i1, ii, iz0, iz1, iz2⟩ := info_parts info_int
  have hlt := h.lt
  have hBW : Below B w (w.alloc (.cells #[.int .u8 (n.kind : Int), .string (mkS n.text), .int .i64 (n.a : Int), .int .i64 (n.b : Int), .int .i64 (n.n : Int)] 52)) := (Below.refl B w).alloc hlt.2 _
  have hbx := Blk.new w 52 #[.int .u8 (n.kind : Int), .string (mkS n.text), .int .i64 (n.a : Int), .int .i64 (n.b : Int), .int .i64 (n.n : Int)]
  have hG := Lib.hid (fun (c : Nat) (W : World) (hW : B ≤ W.heap.size) => giveUp_any B at_ c W hW)
  obtain ⟨nx, vN, vL, vH, D, h1, h2, h3, h4, h5⟩ := h.alloc (.cells #[.int .u8 (n.kind : Int), .string (mkS n.text), .int .i64 (n.a : Int), .int .i64 (n.b : Int), .int .i64 (n.n : Int)] 52)
  have hN := h3.max
  have hlen := h3.len
  have hk : Blk (w.alloc (.cells #[.int .u8 (n.kind : Int), .string (mkS n.text), .int .i64 (n.a : Int), .int .i64 (n.b : Int), .int .i64 (n.n : Int)] 52)) p 42 (rdC s (st.pl last) (mkS st.tx) (st.T.isEmpty && wrong) nx o vN vL vH gm) := h1.1 _ (List.mem_cons_self ..)
  have hrN : (w.alloc (.cells #[.int .u8 (n.kind : Int), .string (mkS n.text), .int .i64 (n.a : Int), .int .i64 (n.b : Int), .int .i64 (n.n : Int)] 52)).ownsRow B 52 5 vN st.N.length (st.N.flatMap encN) := h1.1 (itRow B 52 5 vN st.N.length (st.N.flatMap encN)) (by simp)
  obtain ⟨AN, cN, rfl, -, -⟩ := own_form hrN
  obtain ⟨nN, hnN⟩ : ∃ k, k = st.N.length := ⟨_, rfl⟩
  have hBz : B ≤ (w.alloc (.cells #[.int .u8 (n.kind : Int), .string (mkS n.text), .int .i64 (n.a : Int), .int .i64 (n.b : Int), .int .i64 (n.n : Int)] 52)).heap.size := Nat.le_trans hlt.2 hBW.size
  generalize hW : w.alloc (.cells #[.int .u8 (n.kind : Int), .string (mkS n.text), .int .i64 (n.a : Int), .int .i64 (n.b : Int), .int .i64 (n.n : Int)] 52) = w1 at h1 hk hrN hBW hBz hbx ⊢
  have hnw : w1.heap.size = w.heap.size + 1 := by rw [← hW]; simp
  have hpb : p ≠ w.heap.size := by omega
  have hw0 : w.heap.size < w1.heap.size := by omega
  clear hnw
  rw [← hnN] at hN hlen hrN hk h1
  have a6 : w1.cell? ⟨p, 6, none⟩ = some (.slice AN nN cN) := hk.cell 6
  by_cases hfull : 4096 ≤ nN
  case pos =>
    have hfI : (4096 : Int) ≤ (nN : Int) := by omega
    have hr : addP n hgt at_ st = .no at_ 4 := by unfold addP; rw [if_pos (by omega)]
    rw [hr]
    have cG := Lib.hid (hG.out 4 w1 hBz)
    replace hW := Lib.hid hW
    replace hnN := Lib.hid hnN
    replace hBW := Lib.hid hBW
    clear hr h1 h2 h3 hk hrN hlen hfull hN hh hbx
    go_enter Tryz.func76, Tryz.ntmps76
    go_upto_region 1 with fail
    rw [hW.out]
    go_wp2_with fail
    refine cG.out.mono ?_
    rintro en w2 hp
    obtain ⟨q, rfl, hq⟩ := hp.pre hBW.out
    exact ⟨rfl, q, rfl, hq⟩
  case neg =>
    have hfI : ¬ (4096 : Int) ≤ (nN : Int) := by omega
    by_cases hdeep : 64 < hgt
    case pos =>
      have hdI : (64 : Int) < (hgt : Int) := by omega
      have hr : addP n hgt at_ st = .no at_ 114 := by unfold addP; rw [if_neg (by omega), if_pos hdeep]
      rw [hr]
      have cG := Lib.hid (hG.out 114 w1 hBz)
      replace hW := Lib.hid hW
      replace hnN := Lib.hid hnN
      replace hBW := Lib.hid hBW
      clear hr h1 h2 h3 hk hrN hlen hfull hN hh hbx hdeep
      go_enter Tryz.func76, Tryz.ntmps76
      go_upto_region 1 with fail
      rw [hW.out]
      go_wp2_with fail
      refine cG.out.mono ?_
      rintro en w2 hp
      obtain ⟨q, rfl, hq⟩ := hp.pre hBW.out
      exact ⟨rfl, q, rfl, hq⟩
    case neg =>
      have hdI : ¬ (64 : Int) < (hgt : Int) := by omega
      have hr : addP n hgt at_ st = .ok st.N.length { st with N := st.N ++ [n], H := st.H ++ [hgt] } := by unfold addP; rw [if_neg (by omega), if_neg hdeep]
      rw [hr, ← hnN]
      have hrH : w1.ownsRow B 3 1 vH st.H.length (st.H.flatMap encH) := h1.1 (itRow B 3 1 vH st.H.length (st.H.flatMap encH)) (by simp)
      obtain ⟨AH, cH, rfl, -, -⟩ := own_form hrH
      have hlH : nN = st.H.length := hlen.symm
      rw [hlen] at hk h1 hrH
      have hap := Lib.hid (h1.apart (b := itRow B 52 5 (.slice AN nN cN) nN (st.N.flatMap encN)) (by simp) (k := p) rfl)
      have b0 : w1.cell? ⟨w.heap.size, 0, none⟩ = some (.int .u8 (n.kind : Int)) := hbx.cell 0
      have b1 : w1.cell? ⟨w.heap.size, 1, none⟩ = some (.string (mkS n.text)) := hbx.cell 1
      have b2 : w1.cell? ⟨w.heap.size, 2, none⟩ = some (.int .i64 (n.a : Int)) := hbx.cell 2
      have b3 : w1.cell? ⟨w.heap.size, 3, none⟩ = some (.int .i64 (n.b : Int)) := hbx.cell 3
      have b4 : w1.cell? ⟨w.heap.size, 4, none⟩ = some (.int .i64 (n.n : Int)) := hbx.cell 4
      have f6 : w1.frozen? ⟨p, 6, none⟩ = false := hk.frozen 6
      have a6H := Lib.hid a6
      have a6a : (w1.alloc (.cells #[.int .u8 (n.kind : Int), .string (mkS n.text), .int .i64 (n.a : Int), .int .i64 (n.b : Int), .int .i64 (n.n : Int)] 52)).cell? ⟨p, 6, none⟩ = some (.slice AN nN cN) := Lib.cell?_alloc_some _ a6
      have f6H := Lib.hid f6
      have hlt1 := h1.1 (itRow B 52 5 (.slice AN nN cN) nN (st.N.flatMap encN)) (by simp)
      replace hW := Lib.hid hW
      replace hnN := Lib.hid hnN
      replace hBW := Lib.hid hBW
      replace hlH := Lib.hid hlH
      replace hlen := Lib.hid hlen
      replace h1 := Lib.hid h1
      replace hk := Lib.hid hk
      replace hrN := Lib.hid hrN
      replace hrH := Lib.hid hrH
      replace hbx := Lib.hid hbx
      replace hh := Lib.hid hh
      replace hdeep := Lib.hid hdeep
      replace hr := Lib.hid hr
      replace h2 := Lib.hid h2
      replace h3 := Lib.hid h3
      clear hlt1 hG
      go_enter Tryz.func76, Tryz.ntmps76
      go_upto_region 1 with fail
      rw [hW.out]
      go_upto_region 5 with fail
      go_region_law ((refine step_append_lies _ (by rfl) _ _ _ (by rfl) B 52 j1 (.agg #[.int .u8 0, .string ⟨#[]⟩, .int .i64 0, .int .i64 0, .int .i64 0]) 5 48 Tryz.underlying22 ji jz0 jz1 jz2 rfl (by omega) (.slice AN nN cN) nN (st.N.flatMap encN) (by rfl) (World.ownsRow.alloc (World.ownsRow.drew hrN.out) _) ⟨w1.heap.size, 0, none⟩ 1 1 (encN n) (by rfl) rfl (news_blk (Blk.new _ 52 (encN n).toArray)) (encN_one n) (by omega) (by unfold maxLen; omega) (by omega) (by simp; omega) _ rfl ?_; intro ga ca w2 hown2 hgrow2 hat2 hlt2; obtain ⟨z1, z2⟩ := far_cell hgrow2 a6H.out f6H.out hap.out; replace hown2 := Lib.hid hown2; replace hgrow2 := Lib.hid hgrow2; replace hat2 := Lib.hid hat2; clear hlt2))
      all_goals
        have hS2 : Hid (Sep w2 ([itBlk p 42 (rdC s (st.pl last) (mkS st.tx) (st.T.isEmpty && wrong) nx o (.slice AN nN cN) vL (.slice AH nN cH) gm), itRow B 52 5 (.slice (some ⟨ga, 0, none⟩) (nN + 1) ca) (nN + 1) (st.N.flatMap encN ++ encN n), itRow B 54 2 vL st.L.length (st.L.flatMap encL), itRow B 3 1 (.slice AH nN cH) nN (st.H.flatMap encH), itMap Tryz.prog 9 (plainElem Tryz.prog 4) gm st.L.length D, itErr 4, itErr 5] ++ X)) := Lib.hid (Sep.two ((h1.out.drewN 1).alloc (.cells #[.int .u8 (n.kind : Int), .string (mkS n.text), .int .i64 (n.a : Int), .int .i64 (n.b : Int), .int .i64 (n.n : Int)] 52)) hgrow2.out hown2.out (fun k hk => by
          have hk : (some ga : Option Nat) = some k := hk
          rcases hat2.out with h | h
          · exact .inl (h.trans hk)
          · refine .inr ?_
            injection hk with hk
            rw [← hk, h]
            exact Nat.le_refl _))
        have hB2 : Hid (Below B w w2) := Lib.hid ((hBW.out.drew.alloc hBz (.cells #[.int .u8 (n.kind : Int), .string (mkS n.text), .int .i64 (n.a : Int), .int .i64 (n.b : Int), .int .i64 (n.n : Int)] 52)).grown hgrow2.out (by show B ≤ (w1.alloc _).heap.size; simp; omega) (fun q hq => (World.ownsRow.lt hrN.out q hq).1))
        have hS3 : Hid (Sep (w2.setCell ⟨p, 6, none⟩ (.slice (some ⟨ga, 0, none⟩) (nN + 1) ca)) ([itBlk p 42 (rdC s (st.pl last) (mkS st.tx) (st.T.isEmpty && wrong) nx o (.slice (some ⟨ga, 0, none⟩) (nN + 1) ca) vL (.slice AH nN cH) gm), itRow B 52 5 (.slice (some ⟨ga, 0, none⟩) (nN + 1) ca) (nN + 1) (st.N.flatMap encN ++ encN n), itRow B 54 2 vL st.L.length (st.L.flatMap encL), itRow B 3 1 (.slice AH nN cH) nN (st.H.flatMap encH), itMap Tryz.prog 9 (plainElem Tryz.prog 4) gm st.L.length D, itErr 4, itErr 5] ++ X)) := Lib.hid (Sep.one hS2.out (gb_set (gb_refl w2 _) 6 (.slice (some ⟨ga, 0, none⟩) (nN + 1) ca)) (by
          have hb := Blk.set_ (hS2.out.1 _ (List.mem_cons_self ..)) 6 (.slice (some ⟨ga, 0, none⟩) (nN + 1) ca)
          exact hb) (fun k hk => .inl hk))
        have hB3 : Hid (Below B w (w2.setCell ⟨p, 6, none⟩ (.slice (some ⟨ga, 0, none⟩) (nN + 1) ca))) := Lib.hid (hB2.out.setCell (p := ⟨p, 6, none⟩) h4 _)
        clear z1 z2 hown2 hgrow2 hat2 hS2 hB2 h1 hk hrN hrH hbx a6 a6a a6H f6H f6 b0 b1 b2 b3 b4 hap hBW hW hw0
        go_upto_region 6 with fail
        generalize w2.setCell ⟨p, 6, none⟩ (.slice (some ⟨ga, 0, none⟩) (nN + 1) ca) = w3 at hS3 hB3 ⊢
        have hk3 : Blk w3 p 42 (rdC s (st.pl last) (mkS st.tx) (st.T.isEmpty && wrong) nx o (.slice (some ⟨ga, 0, none⟩) (nN + 1) ca) vL (.slice AH nN cH) gm) := hS3.out.1 _ (List.mem_cons_self ..)
        have hrH3 := Lib.hid (show w3.ownsRow B 3 1 (.slice AH nN cH) nN (st.H.flatMap encH) from hS3.out.1 (itRow B 3 1 (.slice AH nN cH) nN (st.H.flatMap encH)) (by simp))
        have hap9 := Lib.hid (hS3.out.apart (b := itRow B 3 1 (.slice AH nN cH) nN (st.H.flatMap encH)) (by simp) (k := p) rfl)
        have a9 : w3.cell? ⟨p, 9, none⟩ = some (.slice AH nN cH) := hk3.cell 9
        have hB3s : B ≤ w3.heap.size := Nat.le_trans hlt.2 hB3.out.size
        clear hk3
        go_wp2_with (at_builtin; refine wpList_append_own_at _ rfl _ _ 40 rfl B 3 i1 (.int .i64 0) 1 8 Tryz.underlying40 ii iz0 iz1 iz2 rfl (by decide) _ _ _ rfl (hrH3.out.alloc _) ⟨w3.heap.size, 0, none⟩ 1 1 (encH hgt) rfl rfl (news_blk (Blk.new w3 3 (encH hgt).toArray)) (fun u hu => by rw [List.mem_singleton.1 hu]; rfl) (by unfold maxLen; omega) (by omega) (by simp; omega) ?_)
        intro v8 w8 hown8 hgrow8 _ hloc8
        obtain ⟨A8, c8, rfl, -, -⟩ := own_form hown8
        have hS8 : Hid (Sep w8 ([itBlk p 42 (rdC s (st.pl last) (mkS st.tx) (st.T.isEmpty && wrong) nx o (.slice (some ⟨ga, 0, none⟩) (nN + 1) ca) vL (.slice AH nN cH) gm), itRow B 52 5 (.slice (some ⟨ga, 0, none⟩) (nN + 1) ca) (nN + 1) (st.N.flatMap encN ++ encN n), itRow B 54 2 vL st.L.length (st.L.flatMap encL), itRow B 3 1 (.slice A8 (nN + 1) c8) (nN + 1) (st.H.flatMap encH ++ encH hgt), itMap Tryz.prog 9 (plainElem Tryz.prog 4) gm st.L.length D, itErr 4, itErr 5] ++ X)) := Lib.hid (Sep.four (hS3.out.alloc (.cells (encH hgt).toArray 3)) hgrow8 hown8 (fun k hk => by
          have hk : (Value.slice A8 (nN + 1) c8).ownBlock = some k := hk
          rcases hloc8 with h | h
          · exact .inl (h.symm.trans hk)
          · refine .inr ?_
            rw [h] at hk
            injection hk with hk
            rw [← hk]
            simp))
        have hB8 : Hid (Below B w w8) := Lib.hid ((hB3.out.alloc hB3s (.cells (encH hgt).toArray 3)).grown hgrow8 (by simp; omega) (fun q hq => (World.ownsRow.lt hrH3.out q hq).1))
        have hk8 : Blk w8 p 42 (rdC s (st.pl last) (mkS st.tx) (st.T.isEmpty && wrong) nx o (.slice (some ⟨ga, 0, none⟩) (nN + 1) ca) vL (.slice AH nN cH) gm) := hS8.out.1 _ (List.mem_cons_self ..)
        have a9' : w8.cell? ⟨p, 9, none⟩ = some (.slice AH nN cH) := hk8.cell 9
        have f9 := hk8.frozen 9
        have hS9 : Hid (Sep (w8.setCell ⟨p, 9, none⟩ (.slice A8 (nN + 1) c8)) ([itBlk p 42 (rdC s (st.pl last) (mkS st.tx) (st.T.isEmpty && wrong) nx o (.slice (some ⟨ga, 0, none⟩) (nN + 1) ca) vL (.slice A8 (nN + 1) c8) gm), itRow B 52 5 (.slice (some ⟨ga, 0, none⟩) (nN + 1) ca) (nN + 1) (st.N.flatMap encN ++ encN n), itRow B 54 2 vL st.L.length (st.L.flatMap encL), itRow B 3 1 (.slice A8 (nN + 1) c8) (nN + 1) (st.H.flatMap encH ++ encH hgt), itMap Tryz.prog 9 (plainElem Tryz.prog 4) gm st.L.length D, itErr 4, itErr 5] ++ X)) := Lib.hid (Sep.one hS8.out (gb_set (gb_refl w8 _) 9 (.slice A8 (nN + 1) c8)) (by
          have hb := Blk.set_ (hS8.out.1 _ (List.mem_cons_self ..)) 9 (.slice A8 (nN + 1) c8)
          exact hb) (fun k hk => .inl hk))
        have hB9 : Hid (Below B w (w8.setCell ⟨p, 9, none⟩ (.slice A8 (nN + 1) c8))) := Lib.hid (hB8.out.setCell (p := ⟨p, 9, none⟩) h4 _)
        clear hk8 hown8 hgrow8 hloc8 hS3 hB3 hS8 hB8 hrH3 hap9 a9
        have hw1 : IntKind.i64.wrap (((nN + 1 : Nat) : Int) - 1) = (nN : Int) := by rw [IntKind.wrap_i64]; omega
        go_wp2_with fail
        go_ret
        refine ⟨rfl, ⟨nx, (.slice (some ⟨ga, 0, none⟩) (nN + 1) ca), vL, (.slice A8 (nN + 1) c8), D, ?_, h2.out, ?_, h4, h5⟩, hB9.out, ?_, ?_⟩
        · simp only [List.length_append, List.length_singleton, List.flatMap_append, List.flatMap_singleton]
          rw [← hnN.out, ← hlH.out]
          exact hS9.out
        · have h3 := h3.out
          refine ⟨h3.size, h3.lx, h3.toks, h3.last, ?_, ?_, ?_, ?_, h3.nams⟩
          · show (st.H ++ [hgt]).length = (st.N ++ [n]).length
            rw [List.length_append, List.length_append, h3.len]; rfl
          · show (st.N ++ [n]).length ≤ 4096
            rw [List.length_append, List.length_singleton, ← hnN.out]; omega
          · intro x hx
            rcases List.mem_append.1 hx with hx | hx
            · exact h3.hs x hx
            · rw [List.mem_singleton.1 hx]
              have := hdeep.out
              omega
          · exact h3.lets
        · show nN < (st.N ++ [n]).length
          rw [List.length_append, ← hnN.out]; simp
        · show st.N.length ≤ (st.N ++ [n]).length
          rw [List.length_append]; omega
end
end Go.Proofs.YtnaadajcehfmiaaGreatDoor
